/- What data look like in memory: shapes of values, read (shared) or owned (blocks that nothing else has). No program is named here. -/
import Derived.Below
import Derived.OwnWalk
import Derived.WalkKit
import Derived.Deep.Draws
namespace Go.Proofs.Ytjolhaefnloaoaa
open Go.RowKit

/-- Two worlds hold the same in the blocks of a set. -/
def Same (S : Nat → Prop) (w w' : World) : Prop := ∀ b, S b → w'.heap[b]? = w.heap[b]?

/-- What was there, but for the blocks in F, is as it was. -/
structure Chg (F : List Nat) (w w' : World) : Prop where
  os : w'.os = w.os
  tape : w'.tape = w.tape
  output : w'.output = w.output
  size : w.heap.size ≤ w'.heap.size
  block : ∀ b, b < w.heap.size → b ∉ F → w'.heap[b]? = w.heap[b]?

theorem Chg.refl (F : List Nat) (w : World) : Chg F w w := ⟨rfl, rfl, rfl, Nat.le_refl _, fun _ _ _ => rfl⟩
theorem Chg.trans {F : List Nat} {a b c : World} (h : Chg F a b) (k : Chg F b c) : Chg F a c :=
  ⟨k.os.trans h.os, k.tape.trans h.tape, k.output.trans h.output, Nat.le_trans h.size k.size, fun i hi hn => (k.block i (Nat.lt_of_lt_of_le hi h.size) hn).trans (h.block i hi hn)⟩
theorem Chg.mono {F F' : List Nat} {w w' : World} (h : Chg F w w') (hF : ∀ b ∈ F, b < w.heap.size → b ∈ F') : Chg F' w w' :=
  ⟨h.os, h.tape, h.output, h.size, fun b hb hn => h.block b hb (fun hm => hn (hF b hm hb))⟩
theorem Chg.of_below {w w' : World} (h : Below w.heap.size w w') (F : List Nat) : Chg F w w' := ⟨h.os, h.tape, h.output, h.size, fun b hb _ => h.block b hb⟩
theorem Chg.below {w w' : World} (h : Chg [] w w') : Below w.heap.size w w' := ⟨h.os, h.tape, h.output, h.size, fun b hb => h.block b hb (by simp)⟩
theorem Chg.drewN {F : List Nat} {a w : World} (h : Chg F a w) (n : Nat) : Chg F a (w.drewN n) := ⟨h.os, h.tape, h.output, h.size, h.block⟩
theorem Chg.drew {F : List Nat} {a w : World} (h : Chg F a w) : Chg F a w.drew := ⟨h.os, h.tape, h.output, h.size, h.block⟩
theorem Chg.alloc {F : List Nat} {a w : World} (h : Chg F a w) (o : Obj) : Chg F a (w.alloc o) :=
  h.trans ⟨rfl, rfl, rfl, by simp, fun k hk _ => Below.heap_alloc _ _ _ hk⟩
theorem Chg.setCell {F : List Nat} {a w : World} (h : Chg F a w) {p : Addr} (hp : p.block ∈ F ∨ a.heap.size ≤ p.block) (u : Value) : Chg F a (w.setCell p u) :=
  ⟨h.os, h.tape, h.output, by simpa [World.setCell] using h.size, fun k hk hn => by
    rw [Below.heap_setCell _ _ _ _ (by rintro rfl; rcases hp with hp | hp; exact hn hp; omega)]
    exact h.block k hk hn⟩
theorem Chg.grown {F : List Nat} {a w w' : World} {row : Option Nat} (h : Chg F a w) (hg : w.grownBy w' row) (hr : ∀ k, row = some k → k ∈ F ∨ a.heap.size ≤ k) : Chg F a w' :=
  ⟨hg.os.trans h.os, hg.tape.trans h.tape, hg.output.trans h.output, Nat.le_trans h.size hg.size, fun k hk hn =>
    (hg.block k (Nat.lt_of_lt_of_le hk h.size) (fun e => by rcases hr k e.symm with hr | hr; exact hn hr; omega)).trans (h.block k hk hn)⟩
/-- A callee's change, its set made of blocks of F and of blocks that are new here. -/
theorem Chg.step {F G : List Nat} {a w w' : World} (h : Chg F a w) (k : Chg G w w') (hG : ∀ b ∈ G, b ∈ F ∨ a.heap.size ≤ b) : Chg F a w' :=
  ⟨k.os.trans h.os, k.tape.trans h.tape, k.output.trans h.output, Nat.le_trans h.size k.size, fun b hb hn =>
    (k.block b (Nat.lt_of_lt_of_le hb h.size) (fun hm => by rcases hG b hm with hG | hG; exact hn hG; omega)).trans (h.block b hb hn)⟩
theorem Chg.same {F : List Nat} {w w' : World} (h : Chg F w w') {S : Nat → Prop} (hS : ∀ b, S b → b < w.heap.size ∧ b ∉ F) : Same S w w' := fun b hb => h.block b (hS b hb).1 (hS b hb).2
/-- For the walk, behind a callee: old cells and old marks read as before. -/
theorem Chg.cells {W w1 : World} (h : Chg [] W w1) : (∀ b o, b < W.heap.size → w1.cell? ⟨b, o, none⟩ = W.cell? ⟨b, o, none⟩) ∧ (∀ b o, b < W.heap.size → w1.frozen? ⟨b, o, none⟩ = W.frozen? ⟨b, o, none⟩) :=
  ⟨fun b o hb => World.cell?_of_block (w := W) (h.block b hb (by simp)), fun b o hb => World.frozen?_of_block (w := W) (h.block b hb (by simp))⟩
theorem Same.refl (S : Nat → Prop) (w : World) : Same S w w := fun _ _ => rfl
theorem Same.trans {S : Nat → Prop} {a b c : World} (h : Same S a b) (k : Same S b c) : Same S a c := fun i hi => (k i hi).trans (h i hi)
theorem Same.mono {S S' : Nat → Prop} {w w' : World} (h : Same S w w') (hS : ∀ b, S' b → S b) : Same S' w w' := fun b hb => h b (hS b hb)
theorem Same.alloc {S : Nat → Prop} {w : World} (hS : ∀ b, S b → b < w.heap.size) (o : Obj) : Same S w (w.alloc o) := fun b hb => Below.heap_alloc _ _ _ (hS b hb)
theorem Same.drewN (S : Nat → Prop) (w : World) (n : Nat) : Same S w (w.drewN n) := fun _ _ => rfl
theorem Same.setCell {S : Nat → Prop} {w : World} {p : Addr} (hp : ¬ S p.block) (u : Value) : Same S w (w.setCell p u) := fun b hb => Below.heap_setCell _ _ _ _ (by rintro rfl; exact hp hb)

/-! ### shapes -/
structure Sh (α : Type) where
  sz : Nat
  pos : 0 < sz
  Rd : (Nat → Prop) → World → List Value → α → Prop
  Own : List Nat → World → List Value → α → Prop
  rd_len : ∀ {S w cs x}, Rd S w cs x → cs.length = sz
  rd_one : ∀ {S w cs x}, Rd S w cs x → ∀ u ∈ cs, u.oneCell' = true
  rd_mono : ∀ {S S' : Nat → Prop} {w w' cs x}, Rd S w cs x → (∀ b, S b → S' b) → Same S w w' → Rd S' w' cs x
  own_mono : ∀ {F w w' cs x}, Own F w cs x → Same (· ∈ F) w w' → Own F w' cs x
  own_lt : ∀ {F w cs x}, Own F w cs x → ∀ b ∈ F, b < w.heap.size
  own_rd : ∀ {F w cs x}, Own F w cs x → Rd (· ∈ F) w cs x

namespace Sh
def scalar {α : Type} (enc : α → Value) (h1 : ∀ x, (enc x).oneCell' = true) : Sh α where
  sz := 1
  pos := Nat.one_pos
  Rd := fun _ _ cs x => cs = [enc x]
  Own := fun F _ cs x => F = [] ∧ cs = [enc x]
  rd_len := by rintro S w cs x rfl; rfl
  rd_one := by
    rintro S w cs x rfl u hu
    rw [List.mem_singleton.1 hu]; exact h1 x
  rd_mono := fun h _ _ => h
  own_mono := fun h _ => h
  own_lt := by rintro F w cs x ⟨rfl, _⟩ b hb; cases hb
  own_rd := fun h => h.2
def int (k : IntKind) : Sh Int := scalar (Value.int k) (fun _ => rfl)
def byte : Sh UInt8 := scalar (fun b => Value.int .u8 (b.toNat : Int)) (fun _ => rfl)
theorem byte_sz : byte.sz = 1 := rfl
def bool : Sh Bool := scalar Value.bool (fun _ => rfl)
def str : Sh ByteArray := scalar Value.string (fun _ => rfl)

/-- The value is a slice that reads as a list. -/
def SlRd {α : Type} (d : Sh α) (S : Nat → Prop) (w : World) (v : Value) (xs : List α) : Prop :=
  ∃ (a : Option Addr) (c : Nat), v = .slice a xs.length c ∧ xs.length ≤ c ∧ c ≤ maxLen ∧ (0 < xs.length → ∃ (b o : Nat) (cells : Array Value) (e : TypeId) (fr : Nat × Nat), a = some ⟨b, o, none⟩ ∧ S b ∧ w.heap[b]? = some (.cells cells e fr) ∧
    ∀ (i : Nat) (h : i < xs.length), ∃ cs : List Value, d.Rd S w cs xs[i] ∧ ∀ j u, cs[j]? = some u → cells[o + i * d.sz + j]? = some u)
/-- The value is a slice whose row, and all that it leads to, is in the blocks F. -/
def SlOwn {α : Type} (d : Sh α) (e : TypeId) (F : List Nat) (w : World) (v : Value) (xs : List α) : Prop :=
  (xs = [] ∧ F = [] ∧ ∃ a, v = .slice a 0 0) ∨
  ∃ (b cap : Nat) (cells : Array Value) (Fs : List (List Nat)), v = .slice (some ⟨b, 0, none⟩) xs.length cap ∧ F = b :: Fs.flatten ∧ w.heap[b]? = some (.cells cells e (0, 0)) ∧ xs.length ≤ cap ∧ cap ≤ maxLen ∧ cells.size = cap * d.sz ∧
    Fs.length = xs.length ∧ ∀ (i : Nat) (h : i < xs.length) (h' : i < Fs.length), d.Own Fs[i] w ((cells.toList.drop (i * d.sz)).take d.sz) xs[i]

section
variable {α : Type} {d : Sh α} {S S' : Nat → Prop} {w w' : World} {v : Value} {xs : List α} {e : TypeId} {F : List Nat}
theorem SlRd.mono (h : SlRd d S w v xs) (hS : ∀ b, S b → S' b) (hw : Same S w w') : SlRd d S' w' v xs := by
  obtain ⟨a, c, rfl, h1, h2, h3⟩ := h
  refine ⟨a, c, rfl, h1, h2, fun hp => ?_⟩
  obtain ⟨b, o, cells, e, fr, ha, hb, hh, hc⟩ := h3 hp
  refine ⟨b, o, cells, e, fr, ha, hS b hb, by rw [hw b hb]; exact hh, fun i hi => ?_⟩
  obtain ⟨cs, hr, hcs⟩ := hc i hi
  exact ⟨cs, d.rd_mono hr hS hw, hcs⟩
theorem mem_flatten {Fs : List (List Nat)} {i b : Nat} (h : i < Fs.length) (hb : b ∈ Fs[i]) : b ∈ Fs.flatten := List.mem_flatten.2 ⟨_, List.getElem_mem h, hb⟩
theorem SlOwn.mono (h : SlOwn d e F w v xs) (hw : Same (· ∈ F) w w') : SlOwn d e F w' v xs := by
  rcases h with h | ⟨b, cap, cells, Fs, rfl, rfl, hh, h1, h2, h3, h4, h5⟩
  · exact .inl h
  · refine .inr ⟨b, cap, cells, Fs, rfl, rfl, by rw [hw b (by simp)]; exact hh, h1, h2, h3, h4, fun i hi hi' => d.own_mono (h5 i hi hi') (hw.mono fun k hk => ?_)⟩
    exact List.mem_cons_of_mem _ (mem_flatten hi' hk)
theorem SlOwn.lt (h : SlOwn d e F w v xs) : ∀ b ∈ F, b < w.heap.size := by
  rcases h with ⟨_, rfl, _⟩ | ⟨b, cap, cells, Fs, rfl, rfl, hh, h1, h2, h3, h4, h5⟩
  · intro b hb; cases hb
  · intro k hk
    rcases List.mem_cons.1 hk with rfl | hk
    · exact (Array.getElem?_eq_some_iff.1 hh).1
    · obtain ⟨l, hl, hk⟩ := List.mem_flatten.1 hk
      obtain ⟨i, hi, rfl⟩ := List.mem_iff_getElem.1 hl
      exact d.own_lt (h5 i (by omega) hi) k hk
theorem take_drop_get {cells : Array Value} {p n : Nat} {j : Nat} {u : Value} (h : ((cells.toList.drop p).take n)[j]? = some u) : cells[p + j]? = some u := by
  rw [List.getElem?_take] at h
  split at h
  · rw [List.getElem?_drop] at h
    simpa using h
  · cases h
theorem SlOwn.rd (h : SlOwn d e F w v xs) : SlRd d (· ∈ F) w v xs := by
  rcases h with ⟨rfl, rfl, a, rfl⟩ | ⟨b, cap, cells, Fs, rfl, rfl, hh, h1, h2, h3, h4, h5⟩
  · exact ⟨a, 0, rfl, Nat.le_refl _, by simp [maxLen], fun hp => absurd hp (by simp)⟩
  · refine ⟨_, cap, rfl, h1, h2, fun _ => ⟨b, 0, cells, e, (0, 0), rfl, by simp, hh, fun i hi => ⟨_, d.rd_mono (d.own_rd (h5 i hi (by omega))) (fun k hk => List.mem_cons_of_mem _ (mem_flatten (by omega) hk)) (Same.refl _ _), fun j u hu => ?_⟩⟩⟩
    rw [Nat.zero_add]; exact take_drop_get hu
end

theorem SlRd.up {α : Type} {d : Sh α} {S : Nat → Prop} {w w' : World} {v : Value} {xs : List α} (h : SlRd d S w v xs) (hS : ∀ b, S b → b < w.heap.size) (hc : Chg [] w w') : SlRd d S w' v xs :=
  h.mono (fun _ hb => hb) (hc.same (fun b hb => ⟨hS b hb, by simp⟩))
theorem SlOwn.up {α : Type} {d : Sh α} {e : TypeId} {F : List Nat} {w w' : World} {v : Value} {xs : List α} (h : SlOwn d e F w v xs) (hc : Chg [] w w') : SlOwn d e F w' v xs :=
  h.mono (hc.same (fun b hb => ⟨h.lt b hb, by simp⟩))
theorem SlRd.drew {α : Type} {d : Sh α} {S : Nat → Prop} {w : World} {v : Value} {xs : List α} (h : SlRd d S w v xs) : SlRd d S w.drew v xs := h.mono (fun _ hb => hb) (fun _ _ => rfl)
theorem SlRd.drewN {α : Type} {d : Sh α} {S : Nat → Prop} {w : World} {v : Value} {xs : List α} (h : SlRd d S w v xs) (n : Nat) : SlRd d S (w.drewN n) v xs := h.mono (fun _ hb => hb) (fun _ _ => rfl)
theorem SlOwn.drewN {α : Type} {d : Sh α} {e : TypeId} {F : List Nat} {w : World} {v : Value} {xs : List α} (h : SlOwn d e F w v xs) (n : Nat) : SlOwn d e F (w.drewN n) v xs := h.mono (fun _ _ => rfl)
theorem SlOwn.far {α : Type} {d : Sh α} {e : TypeId} {F : List Nat} {w : World} {v : Value} {xs : List α} (h : SlOwn d e F w v xs) {p : Addr} (hp : p.block ∉ F) (u : Value) : SlOwn d e F (w.setCell p u) v xs :=
  h.mono (Same.setCell hp u)
/-- A slice as a cell of its own. -/
def slice {α : Type} (e : TypeId) (d : Sh α) : Sh (List α) where
  sz := 1
  pos := Nat.one_pos
  Rd := fun S w cs xs => ∃ v, cs = [v] ∧ SlRd d S w v xs
  Own := fun F w cs xs => ∃ v, cs = [v] ∧ SlOwn d e F w v xs
  rd_len := by rintro S w cs x ⟨v, rfl, _⟩; rfl
  rd_one := by
    rintro S w cs x ⟨v, rfl, a, c, rfl, _⟩ u hu
    rw [List.mem_singleton.1 hu]; rfl
  rd_mono := by rintro S S' w w' cs x ⟨v, rfl, h⟩ hS hw; exact ⟨v, rfl, h.mono hS hw⟩
  own_mono := by rintro F w w' cs x ⟨v, rfl, h⟩ hw; exact ⟨v, rfl, h.mono hw⟩
  own_lt := by rintro F w cs x ⟨v, rfl, h⟩; exact h.lt
  own_rd := by rintro F w cs x ⟨v, rfl, h⟩; exact ⟨v, rfl, h.rd⟩
/-- Two in line. -/
def pair {α β : Type} (a : Sh α) (b : Sh β) : Sh (α × β) where
  sz := a.sz + b.sz
  pos := Nat.add_pos_left a.pos _
  Rd := fun S w cs x => ∃ c0 c1, cs = c0 ++ c1 ∧ a.Rd S w c0 x.1 ∧ b.Rd S w c1 x.2
  Own := fun F w cs x => ∃ c0 c1 F0 F1, cs = c0 ++ c1 ∧ F = F0 ++ F1 ∧ a.Own F0 w c0 x.1 ∧ b.Own F1 w c1 x.2
  rd_len := by rintro S w cs x ⟨c0, c1, rfl, h0, h1⟩; rw [List.length_append, a.rd_len h0, b.rd_len h1]
  rd_one := by
    rintro S w cs x ⟨c0, c1, rfl, h0, h1⟩ u hu
    rcases List.mem_append.1 hu with hu | hu
    · exact a.rd_one h0 u hu
    · exact b.rd_one h1 u hu
  rd_mono := by rintro S S' w w' cs x ⟨c0, c1, rfl, h0, h1⟩ hS hw; exact ⟨c0, c1, rfl, a.rd_mono h0 hS hw, b.rd_mono h1 hS hw⟩
  own_mono := by
    rintro F w w' cs x ⟨c0, c1, F0, F1, rfl, rfl, h0, h1⟩ hw
    exact ⟨c0, c1, F0, F1, rfl, rfl, a.own_mono h0 (hw.mono fun _ h => List.mem_append_left _ h), b.own_mono h1 (hw.mono fun _ h => List.mem_append_right _ h)⟩
  own_lt := by
    rintro F w cs x ⟨c0, c1, F0, F1, rfl, rfl, h0, h1⟩ k hk
    rcases List.mem_append.1 hk with hk | hk
    · exact a.own_lt h0 k hk
    · exact b.own_lt h1 k hk
  own_rd := by
    rintro F w cs x ⟨c0, c1, F0, F1, rfl, rfl, h0, h1⟩
    exact ⟨c0, c1, rfl, a.rd_mono (a.own_rd h0) (fun _ h => List.mem_append_left _ h) (Same.refl _ _), b.rd_mono (b.own_rd h1) (fun _ h => List.mem_append_right _ h) (Same.refl _ _)⟩
/-- A Lean structure by its fields. -/
def iso {α β : Type} (d : Sh α) (f : β → α) : Sh β where
  sz := d.sz
  pos := d.pos
  Rd := fun S w cs x => d.Rd S w cs (f x)
  Own := fun F w cs x => d.Own F w cs (f x)
  rd_len := d.rd_len
  rd_one := d.rd_one
  rd_mono := d.rd_mono
  own_mono := d.own_mono
  own_lt := d.own_lt
  own_rd := d.own_rd
end Sh
end Go.Proofs.Ytjolhaefnloaoaa
