/- Appends to rows whose elements own memory; words for a region that is walked along an order. -/
import Derived.Test.YtjolhaefnloaoaaL5
import Derived.Test.YtjolhaefnloaoaaL8
namespace Go.Proofs.Ytjolhaefnloaoaa
open Go.RowKit
namespace Sh
section
variable {α : Type} {w w' : World} {v : Value} {xs : List α} {e : TypeId} {F G : List Nat} {d : Sh α}

/-- One element that owns the blocks G is appended: it lies in a block of its own, just made. -/
theorem SlOwn.append1 {P : Program} (h : SlOwn d e F w v xs) (hF : F.Nodup) {cs : Array Value} {y : α} (hG : d.Own G w cs.toList y) (hGn : G.Nodup) (hd : ∀ k ∈ G, k ∉ F) (t ty e' : TypeId) (z : Value) (bytes : Nat)
    (ht : P.underlying t = some (.slice e)) (hinfo : (P.info? e).map (fun i => (i.zero, i.size, i.bytes)) = some (some z, d.sz, bytes)) (hz : z.cells.size = d.sz) (hbytes : (xs.length + 1) * bytes ≤ 140737488355328) (h63 : xs.length + 1 ≤ 140737488355328) :
    ∃ v' w' F', (Builtin.append_ #[t, t] ty #[v, .slice (some ⟨w.heap.size, 0, none⟩) 1 1]).run P (w.alloc (.cells cs e')) = .ok v' w' ∧ SlOwn d e F' w' v' (xs ++ [y]) ∧ F'.Nodup ∧ (∀ k ∈ F', k ∈ F ∨ k ∈ G ∨ w.heap.size ≤ k) ∧ Chg F (w.alloc (.cells cs e')) w' := by
  have hl1 : cs.size = 1 * d.sz := by have := d.rd_len (d.own_rd hG); simpa using this
  have hc0 : Chg [] w (w.alloc (.cells cs e')) := (Chg.refl _ _).alloc _
  have h1 := h.up hc0
  have hGlt := d.own_lt hG
  have hFlt := h.lt
  have hG1 : d.Own G (w.alloc (.cells cs e')) cs.toList y := d.own_mono hG (hc0.same (fun b hb => ⟨hGlt b hb, by simp⟩))
  obtain ⟨ps, B, hps, rfl, hrow⟩ := h1.rowAll
  subst hps
  simp only [List.length_map] at hbytes h63
  obtain ⟨v', w', B', hrun, hr, hc, hB⟩ := hrow.append d.pos t t ty z bytes ht hinfo hz (.slice (some ⟨w.heap.size, 0, none⟩) 1 1) cs.toList (ys := [(G, y)]) (Src.ofNew (P := P) ht w cs e' d.sz 1 hl1 (fun u hu => d.rd_one (d.own_rd hG) u hu))
    (fun i hi => by
      obtain rfl : i = 0 := by simpa using hi
      have : cs.toList.take d.sz = cs.toList := List.take_of_length_le (by simp at hl1; simp; omega)
      simpa [this] using hG1) (by simpa using hbytes) (by simpa using h63)
  obtain ⟨hBn, hfn, hBf⟩ := List.nodup_append.1 hF
  have hmem : ∀ p ∈ ps, ∀ k ∈ p.1, k ∈ (ps.map Prod.fst).flatten := fun p hp k hk => List.mem_flatten.2 ⟨p.1, List.mem_map.2 ⟨p, hp, rfl⟩, hk⟩
  have hsz1 : (w.alloc (.cells cs e')).heap.size = w.heap.size + 1 := by simp
  have hr2 : Row (fun cs p => d.Own p.1 w' cs p.2) d.sz e B' w' v' (ps ++ [(G, y)]) := by
    refine hr.imp (fun cs p hp ho => d.own_mono ho (hc.same (fun b hb => ⟨d.own_lt ho b hb, fun hbB => ?_⟩))) (fun _ _ => rfl)
    rcases List.mem_append.1 hp with hp | hp
    · exact hBf b hbB b (hmem p hp b hb) rfl
    · obtain rfl : p = (G, y) := by simpa using hp
      exact hd b hb (List.mem_append_left _ hbB)
  have ho := hr2.ownAll
  simp only [List.map_append, List.map_cons, List.map_nil, List.flatten_append, List.flatten_cons, List.flatten_nil, List.append_nil] at ho
  refine ⟨v', w', _, hrun, ho, ?_, ?_, hc.mono (fun b hb _ => List.mem_append_left _ hb)⟩
  · have hB'lt : ∀ k ∈ B', k ∉ (ps.map Prod.fst).flatten ++ G := by
      intro k hk hm
      rcases hB k hk with h | h
      · rcases List.mem_append.1 hm with hm | hm
        · exact hBf k h k hm rfl
        · exact hd k hm (List.mem_append_left _ h)
      · have : k < w.heap.size := by
          rcases List.mem_append.1 hm with hm | hm
          · exact hFlt k (List.mem_append_right _ hm)
          · exact hGlt k hm
        omega
    refine List.nodup_append.2 ⟨hr2.nodup, List.nodup_append.2 ⟨hfn, hGn, fun a ha b hb hab => hd b hb (List.mem_append_right _ (hab ▸ ha))⟩, fun a ha b hb hab => hB'lt a ha (hab ▸ hb)⟩
  · intro k hk
    rcases List.mem_append.1 hk with hk | hk
    · rcases hB k hk with h | h
      · exact .inl (List.mem_append_left _ h)
      · exact .inr (.inr (by omega))
    · rcases List.mem_append.1 hk with hk | hk
      · exact .inl (List.mem_append_right _ hk)
      · exact .inr (.inl hk)

/-- .. at the operation. -/
theorem wpList_own1 {P : Program} {ops : Array Oper} {rest : List Oper} {o : Oper} {a : Act} {Q : Exit → Act → World → Prop} (hgd : o.guard = none) (s x : Operand) (t : TypeId)
    (hop : o.op = .call { callee := .builtin .append, args := #[s, x], argTypes := #[t, t] }) (e e' : TypeId) (cs : Array Value) (y : α) (v : Value) (hv : a.eval s = v) (hxv : a.eval x = .slice (some ⟨w.heap.size, 0, none⟩) 1 1)
    (h : SlOwn d e F w v xs) (hF : F.Nodup) (hG : d.Own G w cs.toList y) (hGn : G.Nodup) (hd : ∀ k ∈ G, k ∉ F) (z : Value) (bytes : Nat)
    (ht : P.underlying t = some (.slice e)) (hinfo : (P.info? e).map (fun i => (i.zero, i.size, i.bytes)) = some (some z, d.sz, bytes)) (hz : z.cells.size = d.sz) (hbytes : (xs.length + 1) * bytes ≤ 140737488355328) (h63 : xs.length + 1 ≤ 140737488355328)
    (hK : ∀ v' w' F', SlOwn d e F' w' v' (xs ++ [y]) → F'.Nodup → (∀ k ∈ F', k ∈ F ∨ k ∈ G ∨ w.heap.size ≤ k) → Chg F (w.alloc (.cells cs e')) w' → wpList P ops Q rest (a.put o.dst v') w') : wpList P ops Q (o :: rest) a (w.alloc (.cells cs e')) := by
  obtain ⟨v', w', F', hr, h1, h2, h3, h4⟩ := h.append1 hF hG hGn hd t o.type e' z bytes ht hinfo hz hbytes h63
  refine wpList_plain hgd fun K hK' => ?_
  have hrun : (execOp a.eval o).run P (w.alloc (.cells cs e')) = .ok (.value v') w' := by simp [execOp, hop, resolve, invoke, builtin, hv, hxv, hr]
  unfold Oper.wp
  rw [hrun]
  exact hK' _ _ (hK v' w' F' h1 h2 h3 h4)
end
end Sh

/-- A cell of a block that stays. -/
theorem Chg.cell {F : List Nat} {W w1 : World} (h : Chg F W w1) {b o : Nat} (hb : b < W.heap.size) (hF : b ∉ F) : w1.cell? ⟨b, o, none⟩ = W.cell? ⟨b, o, none⟩ ∧ w1.frozen? ⟨b, o, none⟩ = W.frozen? ⟨b, o, none⟩ := by
  have := h.block b hb hF
  constructor
  · unfold World.cell?; simp only [this]
  · unfold World.frozen?; simp only [this]
theorem cell_block {w : World} {b : Nat} {cells : Array Value} {e : TypeId} {fr : Nat × Nat} (h : w.heap[b]? = some (.cells cells e fr)) (o : Nat) : w.cell? ⟨b, o, none⟩ = cells[o]? := by
  unfold World.cell?; simp [h]
theorem free_block {w : World} {b : Nat} {cells : Array Value} {e : TypeId} (h : w.heap[b]? = some (.cells cells e (0, 0))) (o : Nat) : w.frozen? ⟨b, o, none⟩ = false := by
  unfold World.frozen?; simp [h]
theorem block_set {w : World} {b : Nat} {cells : Array Value} {e : TypeId} {fr : Nat × Nat} (h : w.heap[b]? = some (.cells cells e fr)) (o : Nat) (u : Value) : (w.setCell ⟨b, o, none⟩ u).heap[b]? = some (.cells (cells.setIfInBounds o u) e fr) := Sh.heap_setCell h o u
theorem lt_block {w : World} {b : Nat} {o : Obj} (h : w.heap[b]? = some o) : b < w.heap.size := (Array.getElem?_eq_some_iff.1 h).1

theorem alloc_at {w : World} {o : Obj} {n : Nat} (h : w.heap.size = n) : (w.alloc o).heap[n]? = some o := by subst h; exact heap_alloc_new _ _
theorem alloc_past {w : World} {o x : Obj} {b : Nat} (h : w.heap[b]? = some x) : (w.alloc o).heap[b]? = some x := by rw [Below.heap_alloc _ _ _ (lt_block h)]; exact h
end Go.Proofs.Ytjolhaefnloaoaa
