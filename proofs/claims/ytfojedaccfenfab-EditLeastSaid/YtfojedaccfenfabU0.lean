/- Ranges over functions: contexts that let nothing be written; a round's code; a chain of code. -/
import Derived.Test.YtfojedaccfenfabA26
import Derived.RangeFuncIn
import Derived.RangeFuncRecord
import Derived.RangeFuncCalls
import Derived.RangeFuncLeaves
import Derived.TacticsIn
import Derived.Below
namespace Go.Proofs.Ytfojedaccfenfab
namespace Abs
set_option linter.unusedVariables false
open Go.RowKit (Below)

/-! ### a context in which nothing may be written -/
def mute (M : Ctx) : Ctx := fun b => ⟨(M b).ver, (M b).loc, (M b).loc.isSome⟩
def muteH (M : Ctx) : Heap := fun b => ⟨(M b).ver, if (M b).loc.isSome then .veil else .none⟩

theorem occ_mute {M : Ctx} {c : Nat} : Occ (mute M) c ↔ Occ M c := Iff.rfl
theorem live_mute {M : Ctx} {c : Nat} : ¬ Live (mute M) c := by
  rintro ⟨b, base, h, h2⟩
  simp only [mute] at h h2
  rw [h] at h2; cases h2
theorem rep_mute {w : World} {M : Ctx} {d : D} {v : Value} (h : Rep w M d v) : Rep w (mute M) d v :=
  h.relow (M := M) (M' := mute M) (p := fun _ _ => True) (fun b ver _ hv => ⟨hv, fun e => .inr ⟨e, rfl⟩⟩) (fun c hc => hc) (h.bd fun _ _ _ => trivial)
theorem rep_unmute {w : World} {M : Ctx} {d : D} {v : Value} (h : Rep w (mute M) d v) : Rep w M d v :=
  h.relow (M := mute M) (M' := M) (p := fun _ _ => True) (fun b ver _ hv => ⟨hv, fun e => .inr ⟨e, rfl⟩⟩) (fun c hc => hc) (h.bd fun _ _ _ => trivial)

/-- what a context must say to be muted: its blocks lie in the world, each alone, none from n on -/
structure Mutes (n : Nat) (w : World) (M : Ctx) : Prop where
  known : ∀ b c base, (M b).loc = some (.mem c base) → c < w.heap.size
  inj : ∀ b b' c base base', (M b).loc = some (.mem c base) → (M b').loc = some (.mem c base') → b = b'
  high : ∀ b, n ≤ b → (M b).ver = 0 ∧ (M b).loc = none
theorem Mutes.of_sim {w : World} {M : Ctx} {n : Nat} {h : Heap} (hs : Sim w M (mrg n h [])) : Mutes n w M :=
  ⟨hs.known, hs.inj, fun b hb => by
    have e : mrg n h [] b = blk0 := by simp [mrg, Nat.not_lt.2 hb]
    have h1 := hs.ver b
    have h2 := hs.con b
    rw [e] at h1 h2
    exact ⟨h1, h2⟩⟩
theorem Mutes.sim {w : World} {M : Ctx} {n : Nat} (h : Mutes n w M) : Sim w (mute M) (mrg n (muteH M) []) := by
  have e : mrg n (muteH M) [] = muteH M := by
    funext b
    by_cases hb : b < n
    · exact mrg_lt hb
    · obtain ⟨h1, h2⟩ := h.high b (by omega)
      simp [mrg, hb, muteH, h1, h2, blk0]
  rw [e]
  refine ⟨fun b => rfl, fun b => ?_, h.inj, fun b => ?_⟩
  · show ConOk w (mute M) (M b).loc (if (M b).loc.isSome then .veil else .none)
    cases hl : (M b).loc with
    | none => exact rfl
    | some x => exact fun c base e => h.known b c base (by rw [hl, e])
  · show (M b).loc.isSome = (if (M b).loc.isSome then Con.veil else .none).isOpq
    cases (M b).loc <;> rfl
theorem Mutes.mono {w w' : World} {M : Ctx} {n : Nat} (h : Mutes n w M) (hs : w.heap.size ≤ w'.heap.size) : Mutes n w' M :=
  ⟨fun b c base e => Nat.lt_of_lt_of_le (h.known b c base e) hs, h.inj, h.high⟩

/-- values without addresses -/
abbrev Free (d : D) : Prop := Bd (fun _ _ => False) d
theorem Free.low {d : D} (h : Free d) (n : Nat) : Low n d := Bd.mono (fun _ _ h => h.elim) h
theorem Rep.to {w : World} {M M' : Ctx} (hocc : ∀ c, Occ M' c → Occ M c) {d : D} {v : Value} (hf : Free d) (h : Rep w M d v) : Rep w M' d v :=
  h.relow (p := fun _ _ => False) (fun b ver h => h.elim) hocc hf
/-- the same in a world in which no block has turned that holds cells -/
theorem Rep.keep {w w' : World} {M : Ctx} (hsz : w.heap.size ≤ w'.heap.size) (hk : ∀ c, ¬ Occ M c → ∀ C e fr, w.heap[c]? = some (.cells C e fr) → w'.heap[c]? = some (.cells C e fr)) {d : D} {v : Value} (h : Rep w M d v) : Free d → Rep w' M d v := by
  have cell : ∀ {a : Addr} {u : Value}, ¬ Occ M a.block → w.cell? a = some u → w'.cell? a = some u := fun {a u} ho hc => by
    unfold World.cell? at hc ⊢
    split at hc
    · rename_i C e fr hb
      rw [hk _ ho _ _ _ hb]; exact hc
    · cases hc
  induction h with
  | top v => exact fun _ => .top v
  | abool b => exact fun _ => .abool b
  | bool b => exact fun _ => .bool b
  | int k i => exact fun _ => .int k i
  | str s => exact fun _ => .str s
  | agg cs vs hl _ ih => intro hf; replace hf := bd_agg.1 hf; exact .agg cs vs hl fun i c v hc hv => ih i c v hc hv (hf c (List.mem_of_getElem? hc))
  | tup cs vs hl _ ih => intro hf; replace hf := bd_tup.1 hf; exact .tup cs vs hl fun i c v hc hv => ih i c v hc hv (hf c (List.mem_of_getElem? hc))
  | nils => exact fun _ => .nils
  | emp a => exact fun _ => .emp a
  | lst0 a c => exact fun _ => .lst0 a c
  | lst l ad c sz u hc hsp hb hlv hsz2 hcell _ ih =>
    intro hf; replace hf := bd_lst.1 hf
    exact .lst l ad c sz u hc hsp (Nat.lt_of_lt_of_le hb hsz) hlv hsz2 (fun i d hd j e he => cell (by rw [Addr.block_add]; exact hlv) (hcell i d hd j e he)) fun i d hd j e he => ih i d hd j e he ((hf d (List.mem_of_getElem? hd)).cells e (List.mem_of_getElem? he))
  | ref sz b ver off len v hv h h1 => intro hf; replace hf := bd_ref.1 hf; exact hf.elim
  | adr cs ad u hsp hb hlv hcell _ ih =>
    intro hf; replace hf := bd_adr.1 hf
    exact .adr cs ad u hsp (Nat.lt_of_lt_of_le hb hsz) hlv (fun j e he => cell (by rw [Addr.block_add]; exact hlv) (hcell j e he)) fun j e he => ih j e he (hf e (List.mem_of_getElem? he))
  | ptr b ver off v hv h h1 => intro hf; replace hf := bd_ptr.1 hf; exact hf.elim
  | nilp => exact fun _ => .nilp
  | fn f cs vs hl _ ih => intro hf; replace hf := bd_fn.1 hf; exact .fn f cs vs hl fun i c v hc hv => ih i c v hc hv (hf c (List.mem_of_getElem? hc))
  | nilfn => exact fun _ => .nilfn
  | map b ver v hv h h1 => intro hf; replace hf := bd_map.1 hf; exact hf.elim
  | nilmap => exact fun _ => .nilmap
  | iface t d v _ ih => intro hf; replace hf := bd_iface.1 hf; exact .iface t d v (ih hf)
  | nilif => exact fun _ => .nilif

theorem Grows.below {n : Nat} {w w' : World} {M M' : Ctx} (h : Grows n w (mute M) w' M') : Below w.heap.size w w' :=
  ⟨h.same.os, h.same.tape, h.same.output, h.size, fun k hk => h.imm k hk live_mute⟩
theorem Grows.occ_mute {n : Nat} {w w' : World} {M M' : Ctx} (hm : Mutes n w M) (h : Grows n w (mute M) w' M') : ∀ c, Occ M c → Occ M' c := by
  rintro c ⟨b, base, hb⟩
  have hbn : b < n := by
    refine Nat.lt_of_not_le fun hle => ?_
    rw [(hm.high b hle).2] at hb; cases hb
  have := h.opq b hbn (by show (M b).loc.isSome = true; rw [hb]; rfl)
  exact ⟨b, base, by rw [this]; exact hb⟩

/-- a pure function, called from wherever: no block turns -/
theorem Pure.mute {P : Program} {f : FuncId} {ds : List D} {r : D} (hp : Pure P f ds r) (hr : Free r) {n : Nat} {w : World} {M : Ctx} (hm : Mutes n w M) {vs : Array Value} (hv : Reps w M ds vs) :
    Calls P f vs w fun e w' => ∃ v, e = .returned v ∧ Rep w' M r v ∧ Below w.heap.size w w' := by
  refine ((hp n (muteH M)).2 w (Abs.mute M) vs hm.sim ⟨hv.size, fun i d v hd hv' => rep_mute (hv.rep i d v hd hv')⟩).mono ?_
  rintro e w' ⟨v, d, h', x, M', rfl, ⟨hh, hx, hd⟩, _, hS, hrep, hg⟩
  subst hd
  exact ⟨v, rfl, hrep.to (hg.occ_mute hm) hr, hg.below⟩

end Abs
end Go.Proofs.Ytfojedaccfenfab
