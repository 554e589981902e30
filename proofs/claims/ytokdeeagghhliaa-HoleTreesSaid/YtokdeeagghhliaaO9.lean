/- Words: a shorter one has the smaller number. -/
import Derived.Test.YtokdeeagghhliaaO8
namespace Go.Proofs.Ytokdeeagghhliaa
namespace Abs
set_option linter.unusedVariables false
set_option linter.unusedSimpArgs false
set_option maxRecDepth 20000

def numL (B : Nat) : List Int → Nat
  | [] => 0
  | x :: l => x.toNat * B ^ l.length + numL B l
def inB (B : Nat) (l : List Int) : Prop := ∀ x ∈ l, 0 ≤ x ∧ x < B

theorem numL_lt {B : Nat} : ∀ {l : List Int}, inB B l → numL B l < B ^ l.length
  | [], _ => by simp [numL]
  | x :: l, h => by
    have h1 := numL_lt (l := l) fun y hy => h y (List.mem_cons_of_mem _ hy)
    have h2 := h x List.mem_cons_self
    have h3 : x.toNat + 1 ≤ B := by omega
    have h4 := Nat.mul_le_mul_right (B ^ l.length) h3
    rw [Nat.add_mul] at h4
    simp only [numL, List.length_cons]
    rw [Nat.pow_succ, Nat.mul_comm (B ^ l.length) B]
    omega

theorem cmpI_neg {a b : Int} (h : cmpI a b < 0) : a < b := by
  unfold cmpI at h
  split at h
  · assumption
  · split at h <;> omega
theorem cmpI_zero {a b : Int} (h : cmpI a b = 0) : a = b := by
  unfold cmpI at h
  split at h
  · omega
  · split at h <;> omega
theorem cmpL_num {B : Nat} : ∀ {a b : List Int}, a.length = b.length → inB B a → inB B b → cmpL a b < 0 → numL B a < numL B b
  | [], [], _, _, _, h => by simp [cmpL] at h
  | x :: a, y :: b, hl, ha, hb, h => by
    have hl' : a.length = b.length := by simpa using hl
    have ha' : inB B a := fun z hz => ha z (List.mem_cons_of_mem _ hz)
    have hb' : inB B b := fun z hz => hb z (List.mem_cons_of_mem _ hz)
    have hx := ha x List.mem_cons_self
    have hy := hb y List.mem_cons_self
    rw [cmpL] at h
    simp only [numL]
    rw [hl']
    split at h
    · rename_i e
      have e := cmpI_zero e
      subst e
      have := cmpL_num hl' ha' hb' h
      omega
    · have e := cmpI_neg h
      have h1 := numL_lt ha'
      rw [hl'] at h1
      have h3 : x.toNat + 1 ≤ y.toNat := by omega
      have h4 := Nat.mul_le_mul_right (B ^ b.length) h3
      rw [Nat.add_mul] at h4
      omega
  | [], _ :: _, hl, _, _, _ => by simp at hl
  | _ :: _, [], hl, _, _, _ => by simp at hl

/-- an exponent above all lengths of words that a table holds -/
def topE : Nat := 2001
/-- the number of a word; one that is not there has the greatest -/
def muW (B : Nat) (x : Wd) : Nat := if x.ok then x.n.toNat * B ^ topE + numL B x.w else 2 ^ 60 * B ^ topE

theorem numL_top {B : Nat} (hB : 1 ≤ B) {x : Wd} (hx : okW x) (hb : inB B x.w) : numL B x.w < B ^ topE :=
  Nat.lt_of_lt_of_le (numL_lt hb) (Nat.pow_le_pow_right hB (by have := hx.short; unfold topE; omega))

theorem muW_lt {B : Nat} (hB : 1 ≤ B) {v c : Wd} (hv : okW v) (hc : okW c) (bv : inB B v.w) (bc : inB B c.w) (h : shorterW v wd1 c = true) : muW B v < muW B c := by
  have hvt := numL_top hB hv bv
  have hn : wd1.n = 0 := rfl
  have hw : wd1.w = [] := rfl
  unfold shorterW at h
  split at h
  · simp at h
  · rename_i hok
    have vok : v.ok = true := by
      cases hvo : v.ok with
      | true => rfl
      | false => exact absurd (.inl hvo) hok
    have v1 := hv.pos
    have v2 := hv.top
    have up : ∀ m : Nat, v.n.toNat + 1 ≤ m → muW B v < m * B ^ topE := fun m hm => by
      unfold muW
      rw [if_pos vok]
      have h4 := Nat.mul_le_mul_right (B ^ topE) hm
      rw [Nat.add_mul] at h4
      omega
    split at h
    · rename_i hco
      have e : muW B c = 2 ^ 60 * B ^ topE := by unfold muW; rw [if_neg (by rw [hco]; simp)]
      rw [e]
      exact up _ (by omega)
    · rename_i hco
      have cok : c.ok = true := by simpa using hco
      have e : muW B c = c.n.toNat * B ^ topE + numL B c.w := by unfold muW; rw [if_pos cok]
      rw [hn, Int.add_zero] at h
      split at h
      · have h2 : v.n < c.n := by simpa using h
        rw [e]
        have := up c.n.toNat (by have := hc.pos; omega)
        omega
      · rename_i hne
        have hne : v.n = c.n := by
          rcases Int.lt_trichotomy v.n c.n with h | h | h
          · exact absurd (by omega) hne
          · exact h
          · exact absurd (by omega) hne
        split at h
        · simp at h
        · have l1 := hv.len (by omega)
          have l2 := hc.len (by omega)
          have t1 : v.n.toNat = c.w.length := by omega
          rw [t1, List.take_length, List.drop_length, hw] at h
          have h3 : cmpL v.w c.w < 0 := by simpa [cmpL] using h
          have := cmpL_num (B := B) (by omega) bv bc h3
          have e2 : muW B v = v.n.toNat * B ^ topE + numL B v.w := by unfold muW; rw [if_pos vok]
          rw [e, e2, hne]
          omega

end Abs
end Go.Proofs.Ytokdeeagghhliaa
