/- Owned rows: a row that was just made, an element laid anew, an element appended. -/
import Derived.Test.YtjolhaefnloaoaaL2
namespace Go.Proofs.Ytjolhaefnloaoaa
open Go.RowKit
namespace Sh
section
variable {α : Type} {d : Sh α} {w : World} {v : Value} {xs : List α} {e : TypeId} {F : List Nat}
theorem SlOwn.nil (d : Sh α) (e : TypeId) (w : World) (a : Option Addr) : SlOwn d e [] w (.slice a 0 0) ([] : List α) := .inl ⟨rfl, rfl, a, rfl⟩
theorem flatten_set_mem {Fs : List (List Nat)} {i : Nat} {G : List Nat} {k : Nat} (h : k ∈ (Fs.set i G).flatten) : k ∈ Fs.flatten ∨ k ∈ G := by
  obtain ⟨l, hl, hk⟩ := List.mem_flatten.1 h
  rcases List.mem_or_eq_of_mem_set hl with hl | rfl
  · exact .inl (List.mem_flatten.2 ⟨l, hl, hk⟩)
  · exact .inr hk
theorem flatten_set_nodup : ∀ {Fs : List (List Nat)} {i : Nat} {G : List Nat}, Fs.flatten.Nodup → G.Nodup → (∀ k ∈ G, k ∉ Fs.flatten) → (Fs.set i G).flatten.Nodup := by
  intro Fs
  induction Fs with
  | nil => intro i G h _ _; simp
  | cons l Fs ih =>
    intro i G h hG hd
    rw [List.flatten_cons, List.nodup_append] at h
    rcases i with _ | i
    · simp only [List.set_cons_zero, List.flatten_cons, List.nodup_append]
      exact ⟨hG, h.2.1, fun a ha b hb e => hd a ha (by rw [List.flatten_cons]; exact List.mem_append_right _ (e ▸ hb))⟩
    · simp only [List.set_cons_succ, List.flatten_cons, List.nodup_append]
      refine ⟨h.1, ih h.2.1 hG (fun k hk hm => hd k hk (by rw [List.flatten_cons]; exact List.mem_append_right _ hm)), fun a ha b hb e => ?_⟩
      rcases flatten_set_mem hb with hb | hb
      · exact h.2.2 a ha b hb e
      · exact hd b hb (by rw [List.flatten_cons]; exact List.mem_append_left _ (e ▸ ha))
/-- Cells laid one behind the other. -/
def putCells (w : World) (b o : Nat) : List Value → World
  | [] => w
  | c :: cs => putCells (w.setCell ⟨b, o, none⟩ c) b (o + 1) cs
theorem putCells_size {b : Nat} : ∀ (cs : List Value) (o : Nat) (w : World), (putCells w b o cs).heap.size = w.heap.size
  | [], _, _ => rfl
  | c :: cs, o, w => by rw [putCells, putCells_size cs]; simp [World.setCell]
theorem putCells_far {b : Nat} : ∀ (cs : List Value) (o : Nat) (w : World) (k : Nat), k ≠ b → (putCells w b o cs).heap[k]? = w.heap[k]?
  | [], _, _, _, _ => rfl
  | c :: cs, o, w, k, h => by rw [putCells, putCells_far cs _ _ k h, Below.heap_setCell _ _ _ _ h]
theorem putCells_at {b : Nat} {e : TypeId} {fr : Nat × Nat} : ∀ (cs : List Value) (o : Nat) (w : World) (cells : Array Value), w.heap[b]? = some (.cells cells e fr) → o + cs.length ≤ cells.size →
    ∃ cells', (putCells w b o cs).heap[b]? = some (.cells cells' e fr) ∧ cells'.size = cells.size ∧ (∀ j, j < o ∨ o + cs.length ≤ j → cells'[j]? = cells[j]?) ∧ ∀ j, j < cs.length → cells'[o + j]? = cs[j]?
  | [], _, _, cells, h, _ => ⟨cells, h, rfl, fun _ _ => rfl, fun j hj => absurd hj (by simp)⟩
  | c :: cs, o, w, cells, h, hl => by
    simp only [List.length_cons] at hl
    obtain ⟨cells', h1, h2, h3, h4⟩ := putCells_at cs (o + 1) _ _ (heap_setCell h o c) (by simp; omega)
    refine ⟨cells', h1, by simpa using h2, fun j hj => ?_, fun j hj => ?_⟩
    · simp only [List.length_cons] at hj
      rw [h3 j (by omega), Array.getElem?_setIfInBounds, if_neg (by omega)]
    · rcases j with _ | j
      · rw [Nat.add_zero, h3 o (by omega), Array.getElem?_setIfInBounds]
        simp; omega
      · have := h4 j (by simpa using hj)
        rw [show o + (j + 1) = o + 1 + j by omega, this]; simp
theorem putCells_chg {F : List Nat} {a : World} {b : Nat} (hb : b ∈ F ∨ a.heap.size ≤ b) : ∀ (cs : List Value) (o : Nat) (w : World), Chg F a w → Chg F a (putCells w b o cs)
  | [], _, _, h => h
  | c :: cs, o, _, h => putCells_chg hb cs (o + 1) _ (h.setCell (p := ⟨b, o, none⟩) hb c)
theorem list_eq_get {l : List Value} {n : Nat} {cs : List Value} (h1 : cs.length = n) (h : ∀ j, j < n → l[j]? = cs[j]?) : l.take n = cs := by
  apply List.ext_getElem?
  intro j
  rw [List.getElem?_take]
  by_cases hj : j < n
  · rw [if_pos hj, h j hj]
  · rw [if_neg hj, List.getElem?_eq_none (by omega)]
/-- Element i of an owned row is laid anew. -/
theorem SlOwn.setE {b n cap : Nat} {G : List Nat} {cs : List Value} {x : α} (h : SlOwn d e F w (.slice (some ⟨b, 0, none⟩) n cap) xs) (i : Nat) (hi : i < xs.length) (hx : d.Own G w cs x) (hbG : b ∉ G) (hF : F.Nodup) (hG : G.Nodup) (hd : ∀ k ∈ G, k ∉ F) :
    ∃ F', SlOwn d e F' (putCells w b (i * d.sz) cs) (.slice (some ⟨b, 0, none⟩) n cap) (xs.set i x) ∧ F'.Nodup ∧ (∀ k ∈ F', k ∈ F ∨ k ∈ G) ∧ b ∈ F' := by
  rcases h with ⟨rfl, _⟩ | ⟨b', cap', cells, Fs, hv, rfl, hh, h1, h2, h3, h4, h5⟩
  · simp at hi
  cases hv
  have hsz : cs.length = d.sz := d.rd_len (d.own_rd hx)
  have hroom : i * d.sz + cs.length ≤ cells.size := by
    rw [h3, hsz, ← Nat.succ_mul]; exact Nat.mul_le_mul_right _ (by omega)
  obtain ⟨cells', k1, k2, k3, k4⟩ := putCells_at cs (i * d.sz) w cells hh hroom
  rw [List.nodup_cons] at hF
  refine ⟨b :: (Fs.set i G).flatten, .inr ⟨b, cap, cells', Fs.set i G, by simp, rfl, k1, by simpa using h1, h2, by rw [k2, h3], by simpa using h4, fun j hj hj' => ?_⟩, ?_, ?_, by simp⟩
  · simp only [List.length_set] at hj hj'
    by_cases hij : i = j
    · subst hij
      simp only [List.getElem_set_self]
      have : (cells'.toList.drop (i * d.sz)).take d.sz = cs := list_eq_get hsz (fun j hj => by
        rw [List.getElem?_drop]
        have := k4 j (by omega)
        simpa using this)
      rw [this]
      exact d.own_mono hx (fun k hk => putCells_far cs _ _ k (by rintro rfl; exact hbG hk))
    · rw [List.getElem_set_ne hij, List.getElem_set_ne hij]
      have : (cells'.toList.drop (j * d.sz)).take d.sz = (cells.toList.drop (j * d.sz)).take d.sz := by
        apply List.ext_getElem?
        intro m
        simp only [List.getElem?_take, List.getElem?_drop, Array.getElem?_toList]
        split
        · rename_i hm
          refine k3 _ ?_
          rcases Nat.lt_or_gt_of_ne hij with hlt | hlt
          · right
            rw [hsz, ← Nat.succ_mul]
            exact Nat.le_trans (Nat.mul_le_mul_right _ (show i.succ ≤ j by omega)) (Nat.le_add_right _ _)
          · left
            have := Nat.mul_le_mul_right d.sz (show j.succ ≤ i by omega)
            rw [Nat.succ_mul] at this
            omega
        · rfl
      rw [this]
      exact d.own_mono (h5 j hj (by omega)) (fun k hk => putCells_far cs _ _ k (by rintro rfl; exact hF.1 (mem_flatten (by omega) hk)))
  · rw [List.nodup_cons]
    refine ⟨fun hm => ?_, flatten_set_nodup hF.2 hG (fun k hk hm => hd k hk (List.mem_cons_of_mem _ hm))⟩
    rcases flatten_set_mem hm with hm | hm
    · exact hF.1 hm
    · exact hbG hm
  · intro k hk
    rcases List.mem_cons.1 hk with rfl | hk
    · exact .inl (by simp)
    · rcases flatten_set_mem hk with hk | hk
      · exact .inl (List.mem_cons_of_mem _ hk)
      · exact .inr hk
/-- What a store into an owned row asks of memory: each of its cells. -/
theorem SlOwn.storeE {n cap : Nat} {a : Option Addr} (h : SlOwn d e F w (.slice a n cap) xs) (i : Nat) (hi : i < xs.length) :
    ∃ b : Nat, b ∈ F ∧ a = some ⟨b, 0, none⟩ ∧ b < w.heap.size ∧ ∀ j, j < d.sz → (∃ u, w.cell? ⟨b, i * d.sz + j, none⟩ = some u) ∧ w.frozen? ⟨b, i * d.sz + j, none⟩ = false := by
  rcases h with ⟨rfl, _⟩ | ⟨b', cap', cells, Fs, hv, rfl, hh, h1, h2, h3, h4, h5⟩
  · simp at hi
  cases hv
  refine ⟨b', by simp, rfl, (Array.getElem?_eq_some_iff.1 hh).1, fun j hj => ⟨?_, by simp [World.frozen?, hh]⟩⟩
  have : i * d.sz + j < cells.size := by
    rw [h3]
    have := Nat.mul_le_mul_right d.sz (show i.succ ≤ cap by omega)
    rw [Nat.succ_mul] at this; omega
  exact ⟨cells[i * d.sz + j], by rw [cell_at hh]; simp [this]⟩
theorem putCells_self {b : Nat} {cells : Array Value} {e : TypeId} {fr : Nat × Nat} : ∀ (cs : List Value) (o : Nat) (w : World), w.heap[b]? = some (.cells cells e fr) → (∀ j u, cs[j]? = some u → cells[o + j]? = some u) → (putCells w b o cs).heap[b]? = w.heap[b]?
  | [], _, _, _, _ => rfl
  | c :: cs, o, w, h, hc => by
    have h0 := hc 0 c rfl
    have hs : cells.setIfInBounds o c = cells := by
      apply Array.ext_getElem?
      intro j
      rw [Array.getElem?_setIfInBounds]
      split
      · rename_i e; subst e; rw [Nat.add_zero] at h0; rw [h0]; simp [(Array.getElem?_eq_some_iff.1 h0).1]
      · rfl
    have h1 := heap_setCell h o c
    rw [hs] at h1
    rw [putCells, putCells_self cs (o + 1) _ h1 (fun j u hu => by have := hc (j + 1) u (by simpa using hu); rwa [show o + 1 + j = o + (j + 1) by omega]), h1, h]
/-- An element of an owned row, and how the row reads when the element has turned. -/
theorem SlOwn.re {n cap b : Nat} (h : SlOwn d e F w (.slice (some ⟨b, 0, none⟩) n cap) xs) (hF : F.Nodup) (i : Nat) (hi : i < xs.length) :
    ∃ (G : List Nat) (cs : List Value), (∀ k ∈ G, k ∈ F ∧ k ≠ b) ∧ G.Nodup ∧ b ∈ F ∧ d.Own G w cs xs[i] ∧ (∀ j u, cs[j]? = some u → w.cell? ⟨b, i * d.sz + j, none⟩ = some u) ∧ ((putCells w b (i * d.sz) cs).heap[b]? = w.heap[b]?) ∧
      ∀ w' cs' y, d.Own G w' cs' y → w'.heap[b]? = (putCells w b (i * d.sz) cs').heap[b]? → (∀ k ∈ F, k ≠ b → k ∉ G → w'.heap[k]? = w.heap[k]?) → SlOwn d e F w' (.slice (some ⟨b, 0, none⟩) n cap) (xs.set i y) := by
  rcases h with ⟨rfl, _⟩ | ⟨b', cap', cells, Fs, hv, rfl, hh, h1, h2, h3, h4, h5⟩
  · simp at hi
  cases hv
  rw [List.nodup_cons] at hF
  have hiF : i < Fs.length := by omega
  have hcs : ∀ j u, ((cells.toList.drop (i * d.sz)).take d.sz)[j]? = some u → cells[i * d.sz + j]? = some u := fun j u hu => take_drop_get hu
  refine ⟨Fs[i], (cells.toList.drop (i * d.sz)).take d.sz, fun k hk => ⟨List.mem_cons_of_mem _ (mem_flatten hiF hk), fun e => hF.1 (e ▸ mem_flatten hiF hk)⟩, ?_, by simp, h5 i hi hiF, fun j u hu => by rw [cell_at hh]; exact hcs j u hu, putCells_self _ _ _ hh hcs, fun w' cs' y hy hb hk => ?_⟩
  · have := hF.2
    unfold List.Nodup at this
    rw [List.pairwise_flatten] at this
    exact this.1 _ (List.getElem_mem hiF)
  have hsz : cs'.length = d.sz := d.rd_len (d.own_rd hy)
  have hroom : i * d.sz + cs'.length ≤ cells.size := by
    rw [h3, hsz, ← Nat.succ_mul]; exact Nat.mul_le_mul_right _ (by omega)
  obtain ⟨cells', k1, k2, k3, k4⟩ := putCells_at cs' (i * d.sz) w cells hh hroom
  refine .inr ⟨b, cap, cells', Fs, by simp, rfl, by rw [hb, k1], by simpa using h1, h2, by rw [k2, h3], by simpa using h4, fun j hj hj' => ?_⟩
  simp only [List.length_set] at hj
  by_cases hij : i = j
  · subst hij
    simp only [List.getElem_set_self]
    have : (cells'.toList.drop (i * d.sz)).take d.sz = cs' := list_eq_get hsz (fun j hj => by
      rw [List.getElem?_drop]
      have := k4 j (by omega)
      simpa using this)
    rw [this]; exact hy
  · rw [List.getElem_set_ne hij]
    have : (cells'.toList.drop (j * d.sz)).take d.sz = (cells.toList.drop (j * d.sz)).take d.sz := by
      apply List.ext_getElem?
      intro m
      simp only [List.getElem?_take, List.getElem?_drop, Array.getElem?_toList]
      split
      · rename_i hm
        refine k3 _ ?_
        rcases Nat.lt_or_gt_of_ne hij with hlt | hlt
        · right
          rw [hsz, ← Nat.succ_mul]
          exact Nat.le_trans (Nat.mul_le_mul_right _ (show i.succ ≤ j by omega)) (Nat.le_add_right _ _)
        · left
          have := Nat.mul_le_mul_right d.sz (show j.succ ≤ i by omega)
          rw [Nat.succ_mul] at this
          omega
      · rfl
    rw [this]
    refine d.own_mono (h5 j hj hj') (fun k hk' => hk k (List.mem_cons_of_mem _ (mem_flatten hj' hk')) (fun e => hF.1 (e ▸ mem_flatten hj' hk')) (fun hkG => ?_))
    have hp := hF.2
    unfold List.Nodup at hp
    rw [List.pairwise_flatten] at hp
    have hp := hp.2
    rw [List.pairwise_iff_getElem] at hp
    rcases Nat.lt_or_gt_of_ne hij with hlt | hlt
    · exact hp i j hiF hj' hlt k hkG k hk' rfl
    · exact hp j i hj' hiF hlt k hk' k hkG rfl
/-- What 'make' gives. -/
theorem SlOwn.made {z : Array Value} {x : α} (W : World) (n : Nat) (hn : n ≤ maxLen) (hz : z.size = d.sz) (hx : ∀ w : World, d.Own [] w z.toList x) :
    SlOwn d e [W.heap.size] (W.alloc (.cells (madeCells z (n * d.sz)) e)) (.slice (some ⟨W.heap.size, 0, none⟩) n n) (List.replicate n x) := by
  refine .inr ⟨W.heap.size, n, madeCells z (n * d.sz), List.replicate n [], by simp, by simp, heap_alloc_new W _, by simp, hn, size_madeCells _ _, by simp, fun i hi hi' => ?_⟩
  simp only [List.length_replicate] at hi
  have : ((madeCells z (n * d.sz)).toList.drop (i * d.sz)).take d.sz = z.toList := by
    refine list_eq_get (by simpa using hz) (fun j hj => ?_)
    have hlt : i * d.sz + j < n * d.sz := by
      have := Nat.mul_le_mul_right d.sz (show i.succ ≤ n by omega)
      rw [Nat.succ_mul] at this; omega
    rw [List.getElem?_drop]
    simp only [madeCells, Array.toList_map, List.getElem?_map, Array.toList_range, Array.getElem?_toList]
    rw [List.getElem?_range hlt]
    have hm : (i * d.sz + j) % z.size = j := by rw [hz, Nat.mul_comm, Nat.mul_add_mod]; exact Nat.mod_eq_of_lt hj
    simp only [Option.map_some, hm]
    have hj' : j < z.size := by omega
    simp [hj']
  rw [this]
  simpa using hx _
end
end Sh
section
variable {P : Program}
/-- 'make([]T, n)' as a fact for the walk. -/
theorem make_fact (t e : TypeId) (z : Value) (size bytes : Nat) (ht : P.underlying t = some (.slice e)) (hinfo : (P.info? e).map (fun i => (i.zero, i.size, i.bytes)) = some (some z, size, bytes)) (n : Nat) (hn : bytes * n ≤ 281474976710656) (h63 : n ≤ 9223372036854775807) :
    ∀ W : World, (Instr.makeSlice t (.int .i64 (n : Int)) (.int .i64 (n : Int))).run P W = .ok (.slice (some ⟨W.heap.size, 0, none⟩) n n) (W.alloc (.cells (madeCells z.cells (n * size)) e)) := by
  intro W
  obtain ⟨i, hi, hzz⟩ := Option.map_eq_some_iff.1 hinfo
  simp only [Prod.mk.injEq] at hzz
  obtain ⟨hz, hs, hb⟩ := hzz
  subst hs hb
  have hb' : (i.bytes : Int) * (n : Int) ≤ 281474976710656 := by
    have h : ((i.bytes * n : Nat) : Int) ≤ 281474976710656 := by omega
    rwa [Int.natCast_mul] at h
  have := run_make (P := P) W t e i z ht hi hz .i64 .i64 n n (by omega) (by omega) hb' (by omega)
  simpa using this
end
end Go.Proofs.Ytjolhaefnloaoaa

