/- Calls of which only the part without addresses is kept. -/
import Derived.Test.YtokdeeagghhliaaO20
namespace Go.Proofs.Ytokdeeagghhliaa
namespace Abs
set_option linter.unusedVariables false
set_option linter.unusedSimpArgs false
set_option maxRecDepth 20000

/-- a result of which only what is no address is kept -/
def tp1 : D → D
  | .abool => .abool
  | .bool b => .bool b
  | .int k i => .int k i
  | .str s => .str s
  | _ => .top
def tpD : D → D
  | .agg cs => .agg (cs.map tp1)
  | .tup cs => .tup (cs.map tp1)
  | d => tp1 d
theorem tp1_rep {w w' : World} {M M' : Ctx} {d : D} {v : Value} (h : Rep w M d v) : Rep w' M' (tp1 d) v := by
  cases h <;> first | exact .top _ | exact .abool _ | exact .bool _ | exact .int .. | exact .str _
theorem tpD_rep {w w' : World} {M M' : Ctx} {d : D} {v : Value} (h : Rep w M d v) : Rep w' M' (tpD d) v := by
  cases h with
  | agg cs vs hl h =>
    refine .agg _ vs (by simpa using hl) fun i c v hc hv => ?_
    simp only [List.getElem?_map, Option.map_eq_some_iff] at hc
    obtain ⟨x, hx, rfl⟩ := hc
    exact tp1_rep (h i x v hx hv)
  | tup cs vs hl h =>
    refine .tup _ vs (by simpa using hl) fun i c v hc hv => ?_
    simp only [List.getElem?_map, Option.map_eq_some_iff] at hc
    obtain ⟨x, hx, rfl⟩ := hc
    exact tp1_rep (h i x v hx hv)
  | _ => first | exact .top _ | exact .abool _ | exact .bool _ | exact .int .. | exact .str _

theorem Pure.frzT {P : Program} {f : FuncId} {ds ds' : List D} {r : D} (hp : Pure P f ds r) {N : Nat} {H : Heap} (hf : WkL (FX N H) ds' ds) : ACalls P f ds' N H fun d h' x => h' = H ∧ x = [] ∧ d = tpD r := by
  obtain ⟨h1, h2⟩ := hp 0 fun _ => blk0
  refine ⟨h1, fun w M vs hsim hreps => ?_⟩
  have hX : WxOk (FX N H) := ⟨rfl, fun i x k h => by simp [FX] at h, fun i j t h => by simp [FX] at h⟩
  have hsim0 : Sim w M (mrg (FX N H).n (fun _ => blk0) (FX N H).lc) := by
    show Sim w M (mrg 0 _ ((List.range N).map H))
    rw [fx_mrg]; exact hsim
  have hM : wkM (FX N H) M = fun _ => hole := by
    funext b; simp [wkM, FX]
  have hs1 := wk_sim (h := fun _ => blk0) hX (fun b hb => by simp [FX] at hb) hsim0
  have hre : Reps w (wkM (FX N H) M) ds vs := by
    refine ⟨by rw [hreps.size, hf.len], fun i d v hd hv => ?_⟩
    have hi : i < ds'.length := by rw [← hf.len]; exact (List.getElem?_eq_some_iff.1 hd).1
    exact wk_rep (h := fun _ => blk0) hX hsim0 (hf.get i _ d (nth_get hi) hd) (hreps.rep i _ v (nth_get hi) hv)
  refine (h2 w _ vs hs1 hre).mono ?_
  rintro e w' ⟨v, d, h', x, M', rfl, ⟨hh, hx, hd⟩, hk, hS, hrep, hg⟩
  subst hd; subst hh
  have himm : ∀ c, c < w.heap.size → w'.heap[c]? = w.heap[c]? := fun c hc => hg.imm c hc (by
    rintro ⟨b, base, hl, _⟩
    rw [hM] at hl; cases hl)
  have hst : Step w M w' M := ⟨hg.size, fun _ => Nat.le_refl _, fun _ _ => .inr rfl, fun _ _ h => h, fun _ _ h => h, fun c hc _ => himm c hc, fun c hc C' e' fr' hh => ⟨C', e', fr', by rw [← himm c hc]; exact hh, rfl⟩, hsim.known, fun _ _ => rfl, hg.same⟩
  refine ⟨v, tpD d, H, [], M, rfl, ⟨rfl, rfl, rfl⟩, by simp, ?_, tpD_rep hrep, hst.grows _⟩
  exact ⟨hsim.ver, fun b => (hsim.con b).step hst fun c base hl => himm c (hsim.known b c base hl), hsim.inj, hsim.opq⟩

theorem Pure.callT {P : Program} {f : FuncId} {ds ds' : List D} {r : D} (hp : Pure P f ds r) {N : Nat} {H : Heap} {s : St} {dst : Option Nat} {K : D → Chg → Prop} (hH : H = s.hp) (hf : WkL (FX N H) ds' ds) (hK : K (tpD r) []) : ACalls P f ds' N H (callK s dst K) :=
  (hp.frzT hf).mono fun d h' x ⟨h1, h2, h3⟩ => .inl ⟨[], by simp [St.inr], h2, by rw [h1, hH]; rfl, by rw [h3]; exact hK⟩

theorem wk_bools {n : Nat} {lc : List Blk} {t ver len : Nat} {l : List Bool} (hb : lc[t]? = some ⟨ver, .cells (l.map .bool)⟩) (hlen : len = l.length) : Wk ⟨n, lc, [], []⟩ (.ref 1 (n + t) ver 0 len) (.lst (l.map .bool)) :=
  wk_frz1 hb (by simp [hlen]) (by simp [hlen]) fun i d hd => by
    simp only [List.getElem?_map, Option.map_eq_some_iff] at hd
    obtain ⟨x, hx, rfl⟩ := hd
    exact ⟨rfl, by simp [nth, List.getD, hx], .bool _⟩
theorem low_bools (n : Nat) (l : List Bool) : Low n (.lst (l.map .bool)) := by
  refine .lst _ fun c hc => ?_
  obtain ⟨k, hk, rfl⟩ := List.mem_map.1 hc
  exact .bool _

end Abs
end Go.Proofs.Ytokdeeagghhliaa
