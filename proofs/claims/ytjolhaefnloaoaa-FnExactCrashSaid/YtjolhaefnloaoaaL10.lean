/- How an argument reads as data gives how it lies in memory, by its shape. -/
import Derived.Test.YtjolhaefnloaoaaL2
import Derived.Deep.Slices
import Derived.ProofKit
namespace Go.Proofs.Ytjolhaefnloaoaa
open Go.RowKit Sh Go.ChangeShapes Go.WideShapes Go.Deep

/-- Cells of type t that read as data lie as shape d says, and the element is as G says. -/
def Opens {α : Type} (P : Program) (d : Sh α) (t : TypeId) (G : α → Prop) : Prop :=
  ∀ (w : World) (H : Type) (enc : TypeId × Value → H) (fuel : Nat) (cs : List Value) (x : DataW H × List MemPlace), DataW.trod enc P w 0 (fun _ => true) true fuel t cs = some x → ∃ a, d.Rd (fun b => b < w.heap.size) w cs a ∧ G a

theorem list_of {α : Type} {Q : Nat → α → Prop} : ∀ n : Nat, (∀ i, i < n → ∃ y, Q i y) → ∃ xs : List α, xs.length = n ∧ ∀ (i : Nat) (h : i < xs.length), Q i xs[i]
  | 0, _ => ⟨[], rfl, fun i h => absurd h (by simp)⟩
  | n + 1, h => by
    obtain ⟨xs, hl, hx⟩ := list_of n (fun i hi => h i (by omega))
    obtain ⟨y, hy⟩ := h n (by omega)
    refine ⟨xs ++ [y], by simp [hl], fun i hi => ?_⟩
    simp only [List.length_append, List.length_singleton] at hi
    by_cases hin : i < xs.length
    · rw [List.getElem_append_left hin]; exact hx i hin
    · have : i = n := by omega
      subst this
      rw [List.getElem_append_right (by omega)]
      simpa [hl] using hy

theorem opens_int {P : Program} {t : TypeId} {k : IntKind} (ht : P.underlying t = some (.int k)) : Opens P (Sh.int k) t (fun n => (Lit.int k n).wf = true) := by
  intro w H enc fuel cs x h
  obtain ⟨n, hc, _, hw⟩ := DataW.trod_int ht h
  exact ⟨n, hc, hw⟩
theorem opens_byte {P : Program} {t : TypeId} (ht : P.underlying t = some (.int .u8)) : Opens P Sh.byte t (fun _ => True) := by
  intro w H enc fuel cs x h
  obtain ⟨n, hc, _, hw⟩ := DataW.trod_int ht h
  have hx : 0 ≤ n ∧ n ≤ 255 := by simpa [Lit.wf, IntKind.min, IntKind.max, IntKind.signed, IntKind.bits] using hw
  refine ⟨UInt8.ofNat n.toNat, ?_, trivial⟩
  show cs = [Value.int .u8 ((UInt8.ofNat n.toNat).toNat : Int)]
  have : ((UInt8.ofNat n.toNat).toNat : Int) = n := by
    rw [UInt8.toNat_ofNat']; omega
  rw [hc, this]
theorem opens_bool {P : Program} {t : TypeId} (ht : P.underlying t = some .bool) : Opens P Sh.bool t (fun _ => True) := by
  intro w H enc fuel cs x h
  obtain ⟨b, hc, _⟩ := DataW.trod_bool ht h
  exact ⟨b, hc, trivial⟩
theorem opens_str {P : Program} {t : TypeId} (ht : P.underlying t = some .string) : Opens P Sh.str t (fun s => s.size ≤ maxLen) := by
  intro w H enc fuel cs x h
  obtain ⟨s, hc, _, hs⟩ := DataW.trod_string ht h
  exact ⟨s, hc, hs⟩
theorem opens_slice {α : Type} {P : Program} {d : Sh α} {t e : TypeId} {G : α → Prop} (e' : TypeId) (ht : P.underlying t = some (.slice e)) (hc : P.cellsOf e = d.sz) (h : Opens P d e G) : Opens P (Sh.slice e' d) t (fun xs => ∀ x ∈ xs, G x) := by
  intro w H enc fuel cs x hx
  rcases open_slice ht hx with ⟨rfl, _⟩ | ⟨a, len, cap, m, n, D, Pl, rfl, _, hl, hm, hmm, _, hall⟩
  · exact ⟨[], ⟨_, rfl, none, 0, rfl, by simp, by simp, by simp⟩, by simp⟩
  · simp only [if_true] at hmm
    subst hmm
    rw [hc] at hall
    have hall' : ∀ i, i < len → ∃ y, G y ∧ ∃ cs', d.Rd (fun b => b < w.heap.size) w cs' y ∧ ∀ j, j < d.sz → w.cell? ((a.add (i * d.sz)).add j) = cs'[j]? := by
      intro i hi
      obtain ⟨cs', h1, h2⟩ := hall i (by omega)
      obtain ⟨y, hy, hg⟩ := h w H enc _ cs' _ h2
      obtain ⟨_, _, h3⟩ := World.cells?_some h1
      exact ⟨y, hg, cs', hy, h3⟩
    obtain ⟨xs, hxl, hxs⟩ := list_of len hall'
    refine ⟨xs, ⟨_, rfl, some a, m, by rw [hxl], by omega, hm, fun hp => ?_⟩, fun x hx => ?_⟩
    · obtain ⟨_, cs', hr, hcell⟩ := hxs 0 hp
      have h0 := hcell 0 d.pos
      have hlen := d.rd_len hr
      have hz : cs'[0]? = some (cs'[0]'(by rw [hlen]; exact d.pos)) := List.getElem?_eq_getElem _
      rw [hz, Nat.zero_mul] at h0
      obtain ⟨b, o, s⟩ := a
      have h0' : w.cell? ⟨b, o, s⟩ = some (cs'[0]'(by rw [hlen]; exact d.pos)) := h0
      unfold World.cell? at h0'
      split at h0'
      · rename_i c e2 fr hh
        have hs : s = none := by
          cases s with
          | none => rfl
          | some _ => simp at h0'
        subst hs
        refine ⟨b, o, c, e2, fr, rfl, (Array.getElem?_eq_some_iff.1 hh).1, hh, fun i hi => ?_⟩
        obtain ⟨_, cs2, hr2, hc2⟩ := hxs i hi
        refine ⟨cs2, hr2, fun j u hu => ?_⟩
        have hj : j < d.sz := by
          rw [← d.rd_len hr2]
          exact (List.getElem?_eq_some_iff.1 hu).1
        have h9 := hc2 j hj
        rw [add_eq, add_eq, cell_at hh, hu] at h9
        exact h9
      · simp at h0'
    · obtain ⟨i, hi, rfl⟩ := List.mem_iff_getElem.1 hx
      exact (hxs i hi).1
theorem opens_pair {α β : Type} {P : Program} {d0 : Sh α} {d1 : Sh β} {t : TypeId} {f0 f1 : Field} {G0 : α → Prop} {G1 : β → Prop} (ht : P.underlying t = some (.struct #[f0, f1])) (ho0 : f0.offset = 0) (ho1 : f1.offset = d0.sz) (hc0 : P.cellsOf f0.type = d0.sz) (hc1 : P.cellsOf f1.type = d1.sz)
    (hc : P.cellsOf t = d0.sz + d1.sz) (h0 : Opens P d0 f0.type G0) (h1 : Opens P d1 f1.type G1) : Opens P (Sh.pair d0 d1) t (fun x => G0 x.1 ∧ G1 x.2) := by
  intro w H enc fuel cs x hx
  obtain ⟨y0, y1, n, _, hl, e0, e1⟩ := trod_struct2 ht hx
  rw [ho0, hc0, List.drop_zero] at e0
  rw [ho1, hc1] at e1
  obtain ⟨a, ha, ga⟩ := h0 w H enc n _ _ e0
  obtain ⟨b, hb, gb⟩ := h1 w H enc n _ _ e1
  refine ⟨(a, b), ⟨cs.take d0.sz, (cs.drop d0.sz).take d1.sz, ?_, ha, hb⟩, ga, gb⟩
  have : (cs.drop d0.sz).take d1.sz = cs.drop d0.sz := List.take_of_length_le (by rw [List.length_drop]; omega)
  rw [this, List.take_append_drop]
theorem opens_iso {α β : Type} {P : Program} {d : Sh α} {t : TypeId} {G : α → Prop} (f : β → α) (g : α → β) (hfg : ∀ a, f (g a) = a) (h : Opens P d t G) : Opens P (Sh.iso d f) t (fun b => G (f b)) := by
  intro w H enc fuel cs x hx
  obtain ⟨a, ha, hg⟩ := h w H enc fuel cs x hx
  exact ⟨g a, by show d.Rd _ _ _ (f (g a)); rw [hfg]; exact ha, by show G (f (g a)); rw [hfg]; exact hg⟩
theorem Opens.imp {α : Type} {P : Program} {d : Sh α} {t : TypeId} {G G' : α → Prop} (h : Opens P d t G) (hG : ∀ a, G a → G' a) : Opens P d t G' := fun w H enc fuel cs x hx => by
  obtain ⟨a, ha, hg⟩ := h w H enc fuel cs x hx
  exact ⟨a, ha, hG a hg⟩

/-! ### facts that are carried past a callee, all by the word 'up' -/
def Blk (w : World) (b : Nat) (o : Obj) : Prop := w.heap[b]? = some o
theorem Blk.lt {w : World} {b : Nat} {o : Obj} (h : Blk w b o) : b < w.heap.size := (Array.getElem?_eq_some_iff.1 h).1
theorem Blk.off {w w' : World} {b : Nat} {o : Obj} {F : List Nat} (h : Blk w b o) (hc : Chg F w w') (hF : b ∉ F) : Blk w' b o := (hc.block b h.lt hF).trans h
theorem Blk.up {w w' : World} {b : Nat} {o : Obj} (h : Blk w b o) (hc : Chg [] w w') : Blk w' b o := h.off hc (by simp)
theorem Blk.cell {w : World} {b : Nat} {cells : Array Value} {e : TypeId} {fr : Nat × Nat} (h : Blk w b (.cells cells e fr)) (o : Nat) : w.cell? ⟨b, o, none⟩ = cells[o]? := by
  have h' : w.heap[b]? = some (.cells cells e fr) := h
  unfold World.cell?; simp [h']
theorem Blk.free {w : World} {b : Nat} {cells : Array Value} {e : TypeId} (h : Blk w b (.cells cells e (0, 0))) (o : Nat) : w.frozen? ⟨b, o, none⟩ = false := by
  have h' : w.heap[b]? = some (.cells cells e (0, 0)) := h
  unfold World.frozen?; simp [h']
theorem Chg.up {w w' w'' : World} {F : List Nat} (h : Chg F w w') (hc : Chg [] w' w'') : Chg F w w'' := h.trans (hc.mono (by simp))
/-- A disk that lies somewhere below the heap's end. -/
def SlIn {α : Type} (d : Sh α) (n : Nat) (w : World) (v : Value) (xs : List α) : Prop := SlRd d (fun b => b < n) w v xs ∧ n ≤ w.heap.size
theorem SlIn.up {α : Type} {d : Sh α} {n : Nat} {w w' : World} {v : Value} {xs : List α} (h : SlIn d n w v xs) (hc : Chg [] w w') : SlIn d n w' v xs :=
  ⟨SlRd.up h.1 (fun _ hb => Nat.lt_of_lt_of_le hb h.2) hc, Nat.le_trans h.2 hc.size⟩
theorem SlIn.off {α : Type} {d : Sh α} {n : Nat} {w w' : World} {v : Value} {xs : List α} {F : List Nat} (h : SlIn d n w v xs) (hc : Chg F w w') (hF : ∀ b ∈ F, n ≤ b) : SlIn d n w' v xs :=
  ⟨h.1.mono (fun _ hb => hb) (hc.same fun b hb => ⟨Nat.lt_of_lt_of_le hb h.2, fun hm => Nat.lt_irrefl _ (Nat.lt_of_lt_of_le hb (hF b hm))⟩), Nat.le_trans h.2 hc.size⟩
def DiskIn (n : Nat) (w : World) (a b : Value) (D : DiskD) : Prop := DiskRd (fun b => b < n) w a b D ∧ n ≤ w.heap.size
theorem DiskIn.lt {n : Nat} {w : World} {a b : Value} {D : DiskD} (h : DiskIn n w a b D) : ∀ k, (fun b => b < n) k → k < w.heap.size := fun _ hk => Nat.lt_of_lt_of_le hk h.2
theorem DiskIn.up {n : Nat} {w w' : World} {a b : Value} {D : DiskD} (h : DiskIn n w a b D) (hc : Chg [] w w') : DiskIn n w' a b D :=
  ⟨⟨SlRd.up h.1.1 (fun _ hb => Nat.lt_of_lt_of_le hb h.2) hc, SlRd.up h.1.2 (fun _ hb => Nat.lt_of_lt_of_le hb h.2) hc⟩, Nat.le_trans h.2 hc.size⟩
theorem DiskIn.off {n : Nat} {w w' : World} {a b : Value} {D : DiskD} {F : List Nat} (h : DiskIn n w a b D) (hc : Chg F w w') (hF : ∀ b ∈ F, n ≤ b) : DiskIn n w' a b D :=
  ⟨⟨h.1.1.mono (fun _ hb => hb) (hc.same fun b hb => ⟨Nat.lt_of_lt_of_le hb h.2, fun hm => Nat.lt_irrefl _ (Nat.lt_of_lt_of_le hb (hF b hm))⟩),
    h.1.2.mono (fun _ hb => hb) (hc.same fun b hb => ⟨Nat.lt_of_lt_of_le hb h.2, fun hm => Nat.lt_irrefl _ (Nat.lt_of_lt_of_le hb (hF b hm))⟩)⟩, Nat.le_trans h.2 hc.size⟩
theorem Sh.SlOwn.off {α : Type} {d : Sh α} {e : TypeId} {F G : List Nat} {w w' : World} {v : Value} {xs : List α} (h : SlOwn d e F w v xs) (hc : Chg G w w') (hG : ∀ b ∈ F, b ∉ G) : SlOwn d e F w' v xs :=
  h.mono (hc.same fun b hb => ⟨h.lt b hb, hG b hb⟩)
end Go.Proofs.Ytjolhaefnloaoaa
