/- Slices of plain elements: a cell of one that is read; a store into one that is owned. -/
import Derived.Test.YtjolhaefnloaoaaL0
namespace Go.Proofs.Ytjolhaefnloaoaa
open Go.RowKit
namespace Sh
section
variable {α : Type} {enc : α → Value} {h1 : ∀ x, (enc x).oneCell' = true} {S : Nat → Prop} {w : World} {v : Value} {xs : List α} {e : TypeId} {F : List Nat}
theorem SlRd.form {d : Sh α} (h : SlRd d S w v xs) : ∃ (a : Option Addr) (c : Nat), v = .slice a xs.length c ∧ xs.length ≤ c ∧ c ≤ maxLen := by
  obtain ⟨a, c, rfl, h1, h2, _⟩ := h
  exact ⟨a, c, rfl, h1, h2⟩
theorem SlRd.bound {d : Sh α} (h : SlRd d S w v xs) : xs.length ≤ 9223372036854775807 := by
  obtain ⟨a, c, rfl, h1, h2, _⟩ := h
  unfold maxLen at h2; omega
theorem cell_at {w : World} {b : Nat} {cells : Array Value} {e : TypeId} {fr : Nat × Nat} (h : w.heap[b]? = some (.cells cells e fr)) (i : Nat) : w.cell? ⟨b, i, none⟩ = cells[i]? := by simp [World.cell?, h]
theorem add_eq (b o i : Nat) : (⟨b, o, none⟩ : Addr).add i = ⟨b, o + i, none⟩ := by unfold Addr.add; split <;> simp_all
/-- Element i of a slice that is read: where it lies, and what it reads as. -/
theorem SlRd.elem {d : Sh α} {a : Option Addr} {n c : Nat} (h : SlRd d S w (.slice a n c) xs) (i : Nat) (hi : i < xs.length) :
    ∃ (b o : Nat) (cs : List Value), a = some ⟨b, o, none⟩ ∧ S b ∧ b < w.heap.size ∧ d.Rd S w cs xs[i] ∧ ∀ j u, cs[j]? = some u → w.cell? ⟨b, o + i * d.sz + j, none⟩ = some u := by
  obtain ⟨a', c', he, _, _, h3⟩ := h
  cases he
  obtain ⟨b, o, cells, e, fr, rfl, hb, hh, hc⟩ := h3 (by omega)
  obtain ⟨cs, hr, hcs⟩ := hc i hi
  exact ⟨b, o, cs, rfl, hb, (Array.getElem?_eq_some_iff.1 hh).1, hr, fun j u hu => by rw [cell_at hh]; exact hcs j u hu⟩
/-- A part of a slice that is read. -/
theorem SlRd.sub {d : Sh α} {b o n c : Nat} (h : SlRd d S w (.slice (some ⟨b, o, none⟩) n c) xs) (i j : Nat) (hij : i ≤ j) (hj : j ≤ xs.length) :
    SlRd d S w (.slice (some ⟨b, o + i * d.sz, none⟩) (j - i) (c - i)) ((xs.take j).drop i) := by
  obtain ⟨a', c', he, h1, h2, h3⟩ := h
  cases he
  have hl : ((xs.take j).drop i).length = j - i := by simp; omega
  refine ⟨_, _, by rw [hl], by rw [hl]; omega, by omega, fun hp => ?_⟩
  rw [hl] at hp
  obtain ⟨b', o', cells, e, fr, ha, hb, hh, hc⟩ := h3 (by omega)
  cases ha
  refine ⟨b, o + i * d.sz, cells, e, fr, rfl, hb, hh, fun m hm => ?_⟩
  rw [hl] at hm
  obtain ⟨cs, hr, hcs⟩ := hc (i + m) (by omega)
  refine ⟨cs, ?_, fun q u hu => ?_⟩
  · have : ((xs.take j).drop i)[m]'(by rw [hl]; exact hm) = xs[i + m]'(by omega) := by simp
    rw [this]; exact hr
  · rw [show o + i * d.sz + m * d.sz = o + (i + m) * d.sz by rw [Nat.add_mul]; omega]
    exact hcs q u hu
/-- The address of a slice that is not empty. -/
theorem SlRd.addr {d : Sh α} {a : Option Addr} {n c : Nat} (h : SlRd d S w (.slice a n c) xs) (hp : 0 < xs.length) : ∃ b o : Nat, a = some ⟨b, o, none⟩ := by
  obtain ⟨a', c', he, _, _, h3⟩ := h
  cases he
  obtain ⟨b, o, _, _, _, rfl, _⟩ := h3 hp
  exact ⟨b, o, rfl⟩
theorem SlRd.cell {a : Option Addr} {n c : Nat} (h : SlRd (scalar enc h1) S w (.slice a n c) xs) (i : Nat) (hi : i < xs.length) :
    ∃ b o : Nat, a = some ⟨b, o, none⟩ ∧ S b ∧ b < w.heap.size ∧ w.cell? ⟨b, o + i, none⟩ = some (enc xs[i]) := by
  obtain ⟨b, o, cs, rfl, hb, hlt, hr, hc⟩ := h.elem i hi
  have hr' : cs = [enc xs[i]] := hr
  subst hr'
  have hq := hc 0 _ rfl
  simp only [scalar, Nat.mul_one, Nat.add_zero] at hq
  exact ⟨b, o, rfl, hb, hlt, hq⟩
/-- A row of plain elements. -/
theorem SlOwn.scalar_mk {b cap : Nat} {cells : Array Value} (hh : w.heap[b]? = some (.cells cells e (0, 0))) (h1' : xs.length ≤ cap) (h2 : cap ≤ maxLen) (h3 : cells.size = cap)
    (hc : ∀ (i : Nat) (h : i < xs.length), cells[i]? = some (enc xs[i])) : SlOwn (scalar enc h1) e [b] w (.slice (some ⟨b, 0, none⟩) xs.length cap) xs := by
  refine .inr ⟨b, cap, cells, List.replicate xs.length [], rfl, by simp, hh, h1', h2, by simpa [scalar] using h3, by simp, fun i hi hi' => ⟨by simp, ?_⟩⟩
  have hq := hc i hi
  apply List.ext_getElem?
  intro j
  simp only [scalar, Nat.mul_one]
  rcases j with _ | j
  · rw [List.getElem?_take, if_pos (by omega), List.getElem?_drop]; simpa using hq
  · rw [List.getElem?_take, if_neg (by omega)]; simp
theorem SlOwn.scalar_open (h : SlOwn (scalar enc h1) e F w v xs) (hp : 0 < xs.length) :
    ∃ (b cap : Nat) (cells : Array Value), F = [b] ∧ v = .slice (some ⟨b, 0, none⟩) xs.length cap ∧ w.heap[b]? = some (.cells cells e (0, 0)) ∧ xs.length ≤ cap ∧ cap ≤ maxLen ∧ cells.size = cap ∧
      ∀ (i : Nat) (h : i < xs.length), cells[i]? = some (enc xs[i]) := by
  rcases h with ⟨rfl, _⟩ | ⟨b, cap, cells, Fs, rfl, rfl, hh, h1', h2, h3, h4, h5⟩
  · simp at hp
  · have hF : Fs.flatten = [] := by
      rw [List.flatten_eq_nil_iff]
      intro l hl
      obtain ⟨i, hi, rfl⟩ := List.mem_iff_getElem.1 hl
      exact (h5 i (by omega) hi).1
    refine ⟨b, cap, cells, by rw [hF], rfl, hh, h1', h2, by simpa [scalar] using h3, fun i hi => ?_⟩
    have hq := (h5 i hi (by omega)).2
    have := congrArg (fun l => l[0]?) hq
    simp only [scalar, Nat.mul_one, List.getElem?_take, List.getElem?_drop] at this
    simpa using this
theorem heap_setCell {w : World} {b : Nat} {cells : Array Value} {e : TypeId} {fr : Nat × Nat} (h : w.heap[b]? = some (.cells cells e fr)) (i : Nat) (u : Value) :
    (w.setCell ⟨b, i, none⟩ u).heap[b]? = some (.cells (cells.setIfInBounds i u) e fr) := by
  simp [World.setCell, Array.getElem?_modify, h]
theorem SlOwn.set {b n cap : Nat} (h : SlOwn (scalar enc h1) e [b] w (.slice (some ⟨b, 0, none⟩) n cap) xs) (i : Nat) (hi : i < xs.length) (x : α) :
    SlOwn (scalar enc h1) e [b] (w.setCell ⟨b, i, none⟩ (enc x)) (.slice (some ⟨b, 0, none⟩) n cap) (xs.set i x) := by
  obtain ⟨b', cap', cells, hF, hv, hh, h1', h2, h3, hc⟩ := h.scalar_open (by omega)
  cases hF; cases hv
  have := SlOwn.scalar_mk (enc := enc) (h1 := h1) (xs := xs.set i x) (heap_setCell hh i (enc x)) (by simpa using h1') h2 (by simpa using h3) (fun j hj => by
    rw [Array.getElem?_setIfInBounds]
    by_cases e : i = j
    · subst e; simp; omega
    · rw [if_neg e, hc j (by simpa using hj)]
      simp [List.getElem_set_ne e])
  simpa using this
/-- What a store into an owned row of plain elements asks of memory. -/
theorem SlOwn.store {n cap : Nat} {a : Option Addr} (h : SlOwn (scalar enc h1) e F w (.slice a n cap) xs) (i : Nat) (hi : i < xs.length) :
    ∃ b : Nat, F = [b] ∧ a = some ⟨b, 0, none⟩ ∧ b < w.heap.size ∧ w.cell? ⟨b, i, none⟩ = some (enc xs[i]) ∧ w.frozen? ⟨b, i, none⟩ = false := by
  obtain ⟨b', cap', cells, hF, hv, hh, h1', h2, h3, hc⟩ := h.scalar_open (by omega)
  cases hv
  exact ⟨b', hF, rfl, (Array.getElem?_eq_some_iff.1 hh).1, by rw [cell_at hh, hc i hi], by simp [World.frozen?, hh]⟩
end
end Sh
end Go.Proofs.Ytjolhaefnloaoaa
