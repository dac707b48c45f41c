/- Maps with integer keys that hold whatever values: what stands at each key. -/
import Derived.Test.YtjolhaefnloaoaaL0
import Derived.Maps.OwnSet
namespace Go.Proofs.Ytjolhaefnloaoaa
open Go.Maps Go.ChangeMaps Go.MapKept

theorem setBlock_same {w : World} {b : Nat} {o o' : Obj} (hb : w.heap[b]? = some o') : (setBlock w b o).heap[b]? = some o := by
  obtain ⟨hlt, _⟩ := Array.getElem?_eq_some_iff.1 hb
  simp [setBlock, hlt]

/-- Each value is read as a token that is the value itself. -/
def heldR (v : Value) : Option (DataW Value × List MemPlace) := some (.held v, [])

/-- Block b is a map of at most n entries; f says what stands at each key. -/
def MapI (P : Program) (k : TypeId) (w : World) (b n : Nat) (f : Int → Option Value) : Prop :=
  ∃ D : DataW Value, w.ownsMap P k heldR b n D ∧ ∀ x : Int, (Lit.int .i64 x).wf = true → Maps.has D (.int .i64 x) = (f x).isSome ∧ ∀ z, D.atKey (.int .i64 x) (.held z) = .held ((f x).getD z)

variable {P : Program} {k : TypeId} {w : World} {b n : Nat} {f : Int → Option Value}

theorem MapI.made (P : Program) (k : TypeId) (w : World) : MapI P k (w.alloc (.map #[] 0)) w.heap.size 0 (fun _ => none) :=
  ⟨_, World.ownsMap_made w P k heldR, fun _ _ => ⟨rfl, fun _ => rfl⟩⟩
theorem MapI.lt (h : MapI P k w b n f) : b < w.heap.size := by obtain ⟨D, h, _⟩ := h; exact h.lt
theorem MapI.mono (h : MapI P k w b n f) {n' : Nat} (hn : n ≤ n') : MapI P k w b n' f := by obtain ⟨D, h, g⟩ := h; exact ⟨D, h.mono hn, g⟩
theorem MapI.same {w' : World} (h : MapI P k w b n f) (hb : w'.heap[b]? = w.heap[b]?) : MapI P k w' b n f := by
  obtain ⟨D, ⟨es, c, hh, r⟩, g⟩ := h
  exact ⟨D, ⟨es, c, hb.trans hh, r⟩, g⟩
theorem MapI.up {F : List Nat} {w' : World} (h : MapI P k w b n f) (hc : Chg F w w') (hF : b ∉ F) : MapI P k w' b n f := h.same (hc.block b h.lt hF)
theorem MapI.drew (h : MapI P k w b n f) : MapI P k w.drew b n f := h.same rfl
theorem MapI.drewN (h : MapI P k w b n f) (m : Nat) : MapI P k (w.drewN m) b n f := h.same rfl

theorem MapI.look {t e : TypeId} (h : MapI P k w b n f) (hk : P.underlying k = some (.int .i64)) (ht : P.underlying t = some (.map k e)) {z : Value} (hz : (zeroValue e).run P w = .ok z w) {x : Int} (hx : (Lit.int .i64 x).wf = true) :
    (Instr.lookup t (.map (some b)) (.int .i64 x) false).run P w = .ok ((f x).getD z) w := by
  obtain ⟨D, h, g⟩ := h
  obtain ⟨v, ps, hrun, hv⟩ := h.lookup (int_keyed hk) ht hz (zd := .held z) (zp := []) rfl (keyOf_int_mk hk hx)
  rw [(g x hx).2 z] at hv
  simp only [heldR, Option.some.injEq, Prod.mk.injEq, DataW.held.injEq] at hv
  rw [hrun, hv.1]
theorem MapI.look_ok {t e : TypeId} (h : MapI P k w b n f) (hk : P.underlying k = some (.int .i64)) (ht : P.underlying t = some (.map k e)) {z : Value} (hz : (zeroValue e).run P w = .ok z w) {x : Int} (hx : (Lit.int .i64 x).wf = true) :
    (Instr.lookup t (.map (some b)) (.int .i64 x) true).run P w = .ok (.tuple #[(f x).getD z, .bool (f x).isSome]) w := by
  obtain ⟨D, h, g⟩ := h
  obtain ⟨v, ps, hrun, hv⟩ := h.look_ok (int_keyed hk) ht hz (zd := .held z) (zp := []) rfl (keyOf_int_mk hk hx)
  rw [(g x hx).2 z] at hv
  simp only [heldR, Option.some.injEq, Prod.mk.injEq, DataW.held.injEq] at hv
  rw [hrun, hv.1, (g x hx).1]

theorem chg_turned {w' : World} (h : w.mapTurned w' b) : Chg [b] w w' := by
  obtain ⟨es, c, es', c', hb, rfl⟩ := h
  exact ⟨rfl, rfl, rfl, by simp [setBlock], fun i _ hi => heap_setBlock_other hb _ (fun e => hi (by simp [e]))⟩

/-- A store. -/
theorem MapI.store {t e : TypeId} (h : MapI P k w b n f) (hk : P.underlying k = some (.int .i64)) (ht : P.underlying t = some (.map k e)) (hn : n < maxLen) {x : Int} (hx : (Lit.int .i64 x).wf = true) (v : Value) :
    ∃ w', (Instr.mapUpdate t (.map (some b)) (.int .i64 x) v).run P w = .ok () w' ∧ MapI P k w' b (n + 1) (fun y => if y = x then some v else f y) ∧ Chg [b] w w' := by
  obtain ⟨D, h, g⟩ := h
  have hm := h.isMap
  obtain ⟨w', hrun, h', ht'⟩ := h.store (int_keyed hk) ht hn (keyOf_int_mk hk hx) (d := .held v) (ps := []) (val := v) rfl
  refine ⟨w', hrun, ⟨_, h', fun y hy => ?_⟩, chg_turned ht'⟩
  by_cases hyx : y = x
  · subst hyx
    have hkl : WideAt.IsKeyLit (Lit.int .i64 y) := by constructor
    exact ⟨by simp [has_put_same hm hkl], fun z => by simp [atKey_put_same hm hkl]⟩
  · have hne : Lit.int .i64 y ≠ Lit.int .i64 x := fun e => hyx (by cases e; rfl)
    exact ⟨by simp [hyx, has_put_other hne, (g y hy).1], fun z => by simp [hyx, atKey_put_other hne, (g y hy).2]⟩

/-- clear. -/
theorem MapI.clear {t e : TypeId} (h : MapI P k w b n f) (ht : P.underlying t = some (.map k e)) (ty : TypeId) :
    ∃ w', (Builtin.clear_ #[t] ty #[.map (some b)]).run P w = .ok (.tuple #[]) w' ∧ MapI P k w' b 0 (fun _ => none) ∧ Chg [b] w w' := by
  obtain ⟨D, ⟨es, c, hb, F, hs, hD⟩, g⟩ := h
  refine ⟨setBlock w b (.map #[] c), ?_, ⟨.map [], ⟨#[], c, setBlock_same hb, ⟨by simp, stamped_empty c, by simp⟩, Nat.le_refl _, rfl⟩, fun _ _ => ⟨rfl, fun _ => rfl⟩⟩, ?_⟩
  · simp [Builtin.clear_, run_underlying ht, MapKept.run_getObj_map hb, MapKept.run_setObj_map _ hb, Result.andThen, setBlock]
  · exact ⟨rfl, rfl, rfl, by simp [setBlock], fun i _ hi => heap_setBlock_other hb _ (fun e => hi (by simp [e]))⟩
end Go.Proofs.Ytjolhaefnloaoaa
