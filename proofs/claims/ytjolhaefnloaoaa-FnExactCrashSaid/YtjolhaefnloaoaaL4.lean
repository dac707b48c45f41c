/- Rows that are appended to. -/
import Derived.Test.YtjolhaefnloaoaaL3
import Derived.Deep.AppendSrc
import Derived.Tactics
namespace Go.Proofs.Ytjolhaefnloaoaa
open Go.RowKit
namespace Sh
section
variable {α : Type} {R : List Value → α → Prop} {sz : Nat} {w w' : World} {v : Value} {xs ys : List α} {e : TypeId} {B : List Nat}
/-- A row of the call's own whose elements' cells stand to the elements as R says. -/
def Row (R : List Value → α → Prop) (sz : Nat) (e : TypeId) (B : List Nat) (w : World) (v : Value) (xs : List α) : Prop :=
  (xs = [] ∧ B = [] ∧ ∃ a, v = .slice a 0 0) ∨
  ∃ (b cap : Nat) (cells : Array Value), v = .slice (some ⟨b, 0, none⟩) xs.length cap ∧ B = [b] ∧ w.heap[b]? = some (.cells cells e (0, 0)) ∧ xs.length ≤ cap ∧ cap ≤ maxLen ∧ cells.size = cap * sz ∧
    ∀ (i : Nat) (h : i < xs.length), R ((cells.toList.drop (i * sz)).take sz) xs[i]
theorem Row.nil (R : List Value → α → Prop) (sz : Nat) (e : TypeId) (w : World) (a : Option Addr) : Row R sz e [] w (.slice a 0 0) ([] : List α) := .inl ⟨rfl, rfl, a, rfl⟩
theorem Row.imp {R' : List Value → α → Prop} (h : Row R sz e B w v xs) (hR : ∀ cs x, x ∈ xs → R cs x → R' cs x) (hw : Same (· ∈ B) w w') : Row R' sz e B w' v xs := by
  rcases h with h | ⟨b, cap, cells, rfl, rfl, hh, h1, h2, h3, h4⟩
  · exact .inl h
  · exact .inr ⟨b, cap, cells, rfl, rfl, by rw [hw b (by simp)]; exact hh, h1, h2, h3, fun i hi => hR _ _ (List.getElem_mem hi) (h4 i hi)⟩
theorem Row.lt (h : Row R sz e B w v xs) : ∀ b ∈ B, b < w.heap.size := by
  rcases h with ⟨_, rfl, _⟩ | ⟨b, cap, cells, rfl, rfl, hh, _⟩
  · intro b hb; cases hb
  · intro k hk
    rw [List.mem_singleton] at hk; subst hk
    exact (Array.getElem?_eq_some_iff.1 hh).1
theorem Row.nodup (h : Row R sz e B w v xs) : B.Nodup := by
  rcases h with ⟨_, rfl, _⟩ | ⟨b, cap, cells, rfl, rfl, hh, _⟩ <;> simp
theorem Row.form (h : Row R sz e B w v xs) : ∃ (a : Option Addr) (c : Nat), v = .slice a xs.length c ∧ xs.length ≤ c ∧ c ≤ maxLen := by
  rcases h with ⟨rfl, _, a, rfl⟩ | ⟨b, cap, cells, rfl, _, _, h1, h2, _⟩
  · exact ⟨a, 0, rfl, Nat.le_refl _, by simp [maxLen]⟩
  · exact ⟨_, cap, rfl, h1, h2⟩
theorem setCells_put (b : Nat) : ∀ (cs : List Value) (o : Nat) (w : World), w.setCells b o cs = putCells w b o cs
  | [], _, _ => rfl
  | c :: cs, o, w => by rw [putCells, ← setCells_put b cs]; rfl
theorem take_get {l : List Value} {n j : Nat} {u : Value} (h : l[j]? = some u) (hj : j < n) : (l.take n)[j]? = some u := by rw [List.getElem?_take, if_pos hj, h]
/-- What an append gives: ys laid behind xs. -/
theorem Row.append {P : Program} (h : Row R sz e B w v xs) (hsz : 0 < sz) (t tx ty : TypeId) (z : Value) (bytes : Nat) (ht : P.underlying t = some (.slice e)) (hinfo : (P.info? e).map (fun i => (i.zero, i.size, i.bytes)) = some (some z, sz, bytes)) (hz : z.cells.size = sz)
    (x : Value) (news : List Value) (hs : Src P sz tx x ys.length news w) (hys : ∀ (i : Nat) (h : i < ys.length), R ((news.drop (i * sz)).take sz) ys[i]) (hbytes : (xs.length + ys.length) * bytes ≤ 140737488355328) (h63 : xs.length + ys.length ≤ 140737488355328) :
    ∃ v' w' B', (Builtin.append_ #[t, tx] ty #[v, x]).run P w = .ok v' w' ∧ Row R sz e B' w' v' (xs ++ ys) ∧ Chg B w w' ∧ (∀ k ∈ B', k ∈ B ∨ w.heap.size ≤ k) := by
  obtain ⟨i, hi, hzz⟩ := Option.map_eq_some_iff.1 hinfo
  simp only [Prod.mk.injEq] at hzz
  obtain ⟨hz0, hz1, hz2⟩ := hzz
  subst hz1 hz2
  have hnl := hs.newsLen
  -- the arm that grows
  have grow : ∀ (base : Option Addr) (cap : Nat) (olds : List Value), (Builtin.firstCells i.size xs.length (.slice base xs.length cap)).run P w.drew = .ok olds.toArray w.drew → olds.length = xs.length * i.size →
      (∀ (j : Nat) (h : j < xs.length), R ((olds.drop (j * i.size)).take i.size) xs[j]) → cap < xs.length + ys.length →
      ∃ v' w' B', (Builtin.append_ #[t, tx] ty #[.slice base xs.length cap, x]).run P w = .ok v' w' ∧ Row R i.size e B' w' v' (xs ++ ys) ∧ Chg B w w' ∧ (∀ k ∈ B', k ∈ B ∨ w.heap.size ≤ k) := by
    intro base cap olds hold hol hR hg
    have hr := run_append_grow_src (P := P) w t tx ty e i z ht hi hz0 base xs.length cap olds hold x ys.length news hs hg (by omega) (growslice_fits (by omega) hbytes)
    refine ⟨_, _, [w.heap.size], hr, .inr ⟨w.heap.size, _, _, by rw [List.length_append], rfl, heap_alloc_new w.drew _, ?_, ?_, ?_, ?_⟩, ⟨rfl, rfl, rfl, by simp, fun k hk _ => Below.heap_alloc w.drew _ k hk⟩, by simp⟩
    · rw [List.length_append]; exact grownCap_ge _ _ _ _
    · exact grownCap_le_maxLen _ _ _ _ (by unfold maxLen; omega)
    · have hge := grownCap_ge w (xs.length + ys.length) cap e
      simp only [Array.size_append, List.size_toArray, List.length_append, size_zeroCells, hz, hol, hnl, ← Nat.add_mul]
      congr 1; omega
    · intro j hj
      have hcat : ((olds ++ news).toArray ++ Builtin.zeroCells z.cells (grownCap w (xs.length + ys.length) cap e - (xs.length + ys.length))).toList = olds ++ (news ++ (Builtin.zeroCells z.cells (grownCap w (xs.length + ys.length) cap e - (xs.length + ys.length))).toList) := by simp
      rw [hcat]
      rcases Nat.lt_or_ge j xs.length with hlt | hge
      · rw [List.getElem_append_left hlt]
        have hle : j * i.size + i.size ≤ olds.length := by rw [hol, ← Nat.succ_mul]; exact Nat.mul_le_mul_right _ hlt
        rw [List.drop_append_of_le_length (by omega), List.take_append_of_le_length (by rw [List.length_drop]; omega)]
        exact hR j hlt
      · rw [List.getElem_append_right hge]
        have hjy : j - xs.length < ys.length := by rw [List.length_append] at hj; omega
        have hdrop : (olds ++ (news ++ (Builtin.zeroCells z.cells (grownCap w (xs.length + ys.length) cap e - (xs.length + ys.length))).toList)).drop (j * i.size) = (news ++ (Builtin.zeroCells z.cells (grownCap w (xs.length + ys.length) cap e - (xs.length + ys.length))).toList).drop ((j - xs.length) * i.size) := by
          rw [List.drop_append, List.drop_of_length_le (by rw [hol]; exact Nat.mul_le_mul_right _ hge), List.nil_append, hol, Nat.sub_mul]
        rw [hdrop]
        have hle : (j - xs.length) * i.size + i.size ≤ news.length := by rw [hnl, ← Nat.succ_mul]; exact Nat.mul_le_mul_right _ hjy
        rw [List.drop_append_of_le_length (by omega), List.take_append_of_le_length (by rw [List.length_drop]; omega)]
        exact hys _ hjy
  rcases h with ⟨rfl, rfl, a, rfl⟩ | ⟨b, cap, cells, rfl, rfl, hh, h1, h2, h3, h4⟩
  · by_cases h0 : ys.length = 0
    · obtain rfl : ys = [] := List.eq_nil_of_length_eq_zero h0
      obtain rfl : news = [] := List.eq_nil_of_length_eq_zero (by simpa using hnl)
      refine ⟨.slice a 0 0, w, [], ?_, .inl ⟨rfl, rfl, a, rfl⟩, Chg.refl _ _, by simp⟩
      have hlen := hs.len
      have hc := hs.cells
      simp only [List.length_nil] at hlen hc
      rcases hs.kind with ⟨e', hk⟩ | hk <;> rcases a with _ | a <;> simp [Builtin.append_, run_underlying ht, run_underlying hk, sizeOf, typeInfo, hi, hlen, hc, storeCells]
    · refine grow a 0 [] ?_ (by simp) (fun j h => absurd h (by simp)) (by simp; omega)
      rcases a with _ | a <;> simp [Builtin.firstCells, loadCells, loadCellsFrom]
  · have hwhole : ∀ j u, (cells.toList.take (xs.length * i.size))[j]? = some u → w.cell? ((⟨b, 0, none⟩ : Addr).add j) = some u := fun j u hu => by
      rw [add_eq, Nat.zero_add, cell_at hh]
      rw [List.getElem?_take] at hu
      split at hu
      · simpa using hu
      · cases hu
    have hwl : (cells.toList.take (xs.length * i.size)).length = xs.length * i.size := by
      have hcl : cells.toList.length = cap * i.size := by simpa using h3
      rw [List.length_take, hcl]
      exact Nat.min_eq_left (Nat.mul_le_mul_right _ h1)
    by_cases hroom : xs.length + ys.length ≤ cap
    · have hfit : xs.length * i.size + news.length ≤ cells.size := by rw [hnl, h3, ← Nat.add_mul]; exact Nat.mul_le_mul_right _ hroom
      have hr := run_append_room_src (P := P) w t tx ty e i ht hi b 0 xs.length cap x ys.length news hs hroom (fun j hj => by rw [cell_at hh]; simp; omega) (fun j hj => by simp [World.frozen?, hh])
      rw [setCells_put, Nat.zero_add] at hr
      obtain ⟨cells', k1, k2, k3, k4⟩ := putCells_at news (xs.length * i.size) w cells hh hfit
      refine ⟨_, _, [b], hr, .inr ⟨b, cap, cells', by rw [List.length_append], rfl, k1, by rw [List.length_append]; exact hroom, h2, by rw [k2, h3], fun j hj => ?_⟩, putCells_chg (.inl (by simp)) _ _ _ (Chg.refl _ _), by simp⟩
      rcases Nat.lt_or_ge j xs.length with hlt | hge
      · rw [List.getElem_append_left hlt]
        have : (cells'.toList.drop (j * i.size)).take i.size = (cells.toList.drop (j * i.size)).take i.size := by
          apply List.ext_getElem?
          intro m
          simp only [List.getElem?_take, List.getElem?_drop, Array.getElem?_toList]
          split
          · refine k3 _ (.inl ?_)
            have := Nat.mul_le_mul_right i.size (show j.succ ≤ xs.length by omega)
            rw [Nat.succ_mul] at this; omega
          · rfl
        rw [this]; exact h4 j hlt
      · rw [List.getElem_append_right hge]
        have hjy : j - xs.length < ys.length := by rw [List.length_append] at hj; omega
        have : (cells'.toList.drop (j * i.size)).take i.size = (news.drop ((j - xs.length) * i.size)).take i.size := by
          apply List.ext_getElem?
          intro m
          simp only [List.getElem?_take, List.getElem?_drop, Array.getElem?_toList]
          split
          · rename_i hm
            have hle : (j - xs.length) * i.size + i.size ≤ news.length := by rw [hnl, ← Nat.succ_mul]; exact Nat.mul_le_mul_right _ hjy
            rw [← k4 _ (show (j - xs.length) * i.size + m < news.length by omega)]
            congr 1
            have : j * i.size = xs.length * i.size + (j - xs.length) * i.size := by rw [← Nat.add_mul]; congr 1; omega
            omega
          · rfl
        rw [this]; exact hys _ hjy
    · refine grow _ cap (cells.toList.take (xs.length * i.size)) (run_firstCells_some w.drew i.size xs.length _ _ cap _ hwl (by simpa using hwhole)) hwl (fun j hj => ?_) (by omega)
      have : ((cells.toList.take (xs.length * i.size)).drop (j * i.size)).take i.size = (cells.toList.drop (j * i.size)).take i.size := by
        rw [List.drop_take, List.take_take, Nat.min_eq_left]
        have := Nat.mul_le_mul_right i.size (show j.succ ≤ xs.length by omega)
        rw [Nat.succ_mul] at this; omega
      rw [this]; exact h4 j hj
end
end Sh
end Go.Proofs.Ytjolhaefnloaoaa
