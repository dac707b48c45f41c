/- Appends for the walk; rows and slices, one told by the other. -/
import Derived.Test.YtjolhaefnloaoaaL4
namespace Go.Proofs.Ytjolhaefnloaoaa
open Go.RowKit
/-- The length of the slice in a slot: for a loop's measure. -/
def lenOfV : Value → Nat | .slice _ n _ => n | _ => 0
namespace Sh
section
variable {α : Type} {R : List Value → α → Prop} {sz : Nat} {w w' : World} {v : Value} {xs ys : List α} {e : TypeId} {B F : List Nat} {S : Nat → Prop} {d : Sh α}
/-- An append at the operation. -/
theorem wpList_row {P : Program} {ops : Array Oper} {rest : List Oper} {o : Oper} {a : Act} {Q : Exit → Act → World → Prop} (hgd : o.guard = none) (s x : Operand) (t tx : TypeId)
    (hop : o.op = .call { callee := .builtin .append, args := #[s, x], argTypes := #[t, tx] }) (R : List Value → α → Prop) (sz : Nat) (e : TypeId) (B : List Nat) (xs ys : List α) (v xv : Value) (hv : a.eval s = v) (hxv : a.eval x = xv)
    (h : Row R sz e B w v xs) (hsz : 0 < sz) (z : Value) (bytes : Nat) (ht : P.underlying t = some (.slice e)) (hinfo : (P.info? e).map (fun i => (i.zero, i.size, i.bytes)) = some (some z, sz, bytes)) (hz : z.cells.size = sz)
    (news : List Value) (hs : Src P sz tx xv ys.length news w) (hys : ∀ (i : Nat) (h : i < ys.length), R ((news.drop (i * sz)).take sz) ys[i]) (hbytes : (xs.length + ys.length) * bytes ≤ 140737488355328) (h63 : xs.length + ys.length ≤ 140737488355328)
    (hK : ∀ v' w' B', Row R sz e B' w' v' (xs ++ ys) → Chg B w w' → (∀ k ∈ B', k ∈ B ∨ w.heap.size ≤ k) → wpList P ops Q rest (a.put o.dst v') w') : wpList P ops Q (o :: rest) a w := by
  obtain ⟨v', w', B', hr, h1, h2, h3⟩ := h.append hsz t tx o.type z bytes ht hinfo hz xv news hs hys hbytes h63
  refine wpList_plain hgd fun K hK' => ?_
  have hrun : (execOp a.eval o).run P w = .ok (.value v') w' := by simp [execOp, hop, resolve, invoke, builtin, hv, hxv, hr]
  unfold Oper.wp
  rw [hrun]
  exact hK' _ _ (hK v' w' B' h1 h2 h3)
/-- A block that was just made, as what is appended. -/
theorem Src.ofNew {P : Program} {tx e' : TypeId} (hk : P.underlying tx = some (.slice e')) (W : World) (cs : Array Value) (t : TypeId) (sz n : Nat) (hn : cs.size = n * sz) (h1 : ∀ u ∈ cs.toList, u.oneCell' = true) :
    Src P sz tx (.slice (some ⟨W.heap.size, 0, none⟩) n n) n cs.toList (W.alloc (.cells cs t)) :=
  Src.ofSlice _ hk _ n n _ (by simpa using hn) (fun j u hu => by rw [add_eq, Nat.zero_add, cell_at (heap_alloc_new W _)]; simpa using hu) h1
/-- One plain element appended: the world is that behind the element's own block. -/
theorem wpList_app1 {P : Program} {ops : Array Oper} {rest : List Oper} {o : Oper} {a : Act} {Q : Exit → Act → World → Prop} {enc : α → Value} (hgd : o.guard = none) (s x : Operand) (t : TypeId)
    (hop : o.op = .call { callee := .builtin .append, args := #[s, x], argTypes := #[t, t] }) (e e' : TypeId) (B : List Nat) (xs : List α) (y : α) (v u : Value) (hv : a.eval s = v) (hxv : a.eval x = .slice (some ⟨w.heap.size, 0, none⟩) 1 1)
    (h : Row (fun cs x => cs = [enc x]) 1 e B w v xs) (hu : u = enc y) (h1 : (enc y).oneCell' = true) (z : Value) (bytes : Nat) (ht : P.underlying t = some (.slice e)) (hinfo : (P.info? e).map (fun i => (i.zero, i.size, i.bytes)) = some (some z, 1, bytes)) (hz : z.cells.size = 1)
    (hbytes : (xs.length + 1) * bytes ≤ 140737488355328) (h63 : xs.length + 1 ≤ 140737488355328)
    (hK : ∀ v' w' B', Row (fun cs x => cs = [enc x]) 1 e B' w' v' (xs ++ [y]) → Chg B w w' → (∀ k ∈ B', k ∈ B ∨ w.heap.size ≤ k) → wpList P ops Q rest (a.put o.dst v') w') : wpList P ops Q (o :: rest) a (w.alloc (.cells #[u] e')) := by
  subst hu
  have hsrc : Src P 1 t (.slice (some ⟨w.heap.size, 0, none⟩) 1 1) [y].length [enc y] (w.alloc (.cells #[enc y] e')) :=
    Src.ofSlice _ ht _ 1 1 _ rfl (fun j u hu => by
      rw [add_eq, Nat.zero_add, cell_at (heap_alloc_new w _)]
      rcases j with _ | j
      · simpa using hu
      · simp at hu) (fun u hu => by rw [List.mem_singleton.1 hu]; exact h1)
  refine wpList_row hgd s x t t hop _ 1 e B xs [y] v _ hv hxv (h.imp (fun _ _ _ h => h) (Same.alloc h.lt _)) Nat.one_pos z bytes ht hinfo hz _ hsrc (fun i hi => ?_) hbytes h63 (fun v' w' B' h2 h3 h4 => ?_)
  · have : i = 0 := by simpa using hi
    subst this; rfl
  · refine hK v' w' B' h2 (((Chg.refl B w).alloc _).trans h3) (fun k hk => ?_)
    rcases h4 k hk with h4 | h4
    · exact .inl h4
    · right; simp at h4; omega
/-- Plain elements appended, written out: the world is that behind their block. -/
theorem wpList_appL {P : Program} {ops : Array Oper} {rest : List Oper} {o : Oper} {a : Act} {Q : Exit → Act → World → Prop} {enc : α → Value} (hgd : o.guard = none) (s x : Operand) (t : TypeId)
    (hop : o.op = .call { callee := .builtin .append, args := #[s, x], argTypes := #[t, t] }) (e e' : TypeId) (B : List Nat) (xs ys : List α) (v : Value) (cs : Array Value) (n : Nat) (hv : a.eval s = v) (hxv : a.eval x = .slice (some ⟨w.heap.size, 0, none⟩) n n)
    (h : Row (fun cs x => cs = [enc x]) 1 e B w v xs) (hu : cs.toList = ys.map enc) (hn : ys.length = n) (h1 : ∀ y, (enc y).oneCell' = true) (z : Value) (bytes : Nat) (ht : P.underlying t = some (.slice e)) (hinfo : (P.info? e).map (fun i => (i.zero, i.size, i.bytes)) = some (some z, 1, bytes)) (hz : z.cells.size = 1)
    (hbytes : (xs.length + ys.length) * bytes ≤ 140737488355328) (h63 : xs.length + ys.length ≤ 140737488355328)
    (hK : ∀ v' w' B', Row (fun cs x => cs = [enc x]) 1 e B' w' v' (xs ++ ys) → Chg B w w' → (∀ k ∈ B', k ∈ B ∨ w.heap.size ≤ k) → wpList P ops Q rest (a.put o.dst v') w') : wpList P ops Q (o :: rest) a (w.alloc (.cells cs e')) := by
  subst hn
  have hsrc : Src P 1 t (.slice (some ⟨w.heap.size, 0, none⟩) ys.length ys.length) ys.length (ys.map enc) (w.alloc (.cells cs e')) :=
    Src.ofSlice _ ht _ _ _ _ (by simp) (fun j u hu' => by
      rw [add_eq, Nat.zero_add, cell_at (heap_alloc_new w _)]
      rw [← hu] at hu'
      simpa using hu') (fun u hu => by obtain ⟨y, _, rfl⟩ := List.mem_map.1 hu; exact h1 y)
  refine wpList_row hgd s x t t hop _ 1 e B xs ys v _ hv hxv (h.imp (fun _ _ _ h => h) (Same.alloc h.lt _)) Nat.one_pos z bytes ht hinfo hz _ hsrc (fun i hi => ?_) hbytes h63 (fun v' w' B' h2 h3 h4 => ?_)
  · rw [Nat.mul_one, List.drop_eq_getElem_cons (by simpa using hi)]
    simp
  · refine hK v' w' B' h2 (((Chg.refl B w).alloc _).trans h3) (fun k hk => ?_)
    rcases h4 k hk with h4 | h4
    · exact .inl h4
    · right; simp at h4; omega
/-- A slice that is read, as what is appended. -/
theorem Src.ofRd {P : Program} {tx e' : TypeId} (hk : P.underlying tx = some (.slice e')) {a : Option Addr} {n c : Nat} (h : SlRd d S w (.slice a n c) ys) :
    ∃ news, Src P d.sz tx (.slice a n c) ys.length news w ∧ ∀ (i : Nat) (h : i < ys.length), d.Rd S w ((news.drop (i * d.sz)).take d.sz) ys[i] := by
  obtain ⟨a', c', he, _, _, h3⟩ := h
  cases he
  rcases Nat.eq_zero_or_pos ys.length with h0 | h0
  · refine ⟨[], ?_, fun i hi => by omega⟩
    rw [h0]
    rcases a with _ | a
    · exact Src.ofNil _ hk c
    · exact Src.ofSlice _ hk a 0 c [] (by simp) (by simp) (by simp)
  · obtain ⟨b, o, cells, e, fr, rfl, hb, hh, hc⟩ := h3 h0
    have hel : ∀ (i : Nat) (hi : i < ys.length), ((cells.toList.drop (o + i * d.sz)).take d.sz).length = d.sz ∧ d.Rd S w ((cells.toList.drop (o + i * d.sz)).take d.sz) ys[i] := by
      intro i hi
      obtain ⟨cs, hr, hcs⟩ := hc i hi
      have hl := d.rd_len hr
      have : (cells.toList.drop (o + i * d.sz)).take d.sz = cs := list_eq_get hl (fun j hj => by
        rw [List.getElem?_drop, List.getElem?_eq_getElem (by omega : j < cs.length)]
        have := hcs j cs[j] (List.getElem?_eq_getElem (by omega))
        simpa using this)
      rw [this]; exact ⟨hl, hr⟩
    have hsub : ∀ i, i < ys.length → (((cells.toList.drop o).take (ys.length * d.sz)).drop (i * d.sz)).take d.sz = (cells.toList.drop (o + i * d.sz)).take d.sz := by
      intro i hi
      rw [List.drop_take, List.drop_drop, List.take_take, Nat.min_eq_left]
      have := Nat.mul_le_mul_right d.sz (show i.succ ≤ ys.length by omega)
      rw [Nat.succ_mul] at this; omega
    have hlen : ((cells.toList.drop o).take (ys.length * d.sz)).length = ys.length * d.sz := by
      have h1 := (hel (ys.length - 1) (by omega)).1
      rw [List.length_take, List.length_drop] at h1
      rw [List.length_take, List.length_drop]
      have h2 : ys.length * d.sz = (ys.length - 1) * d.sz + d.sz := by rw [← Nat.succ_mul]; congr 1; omega
      have := d.pos
      omega
    refine ⟨(cells.toList.drop o).take (ys.length * d.sz), Src.ofSlice _ hk ⟨b, o, none⟩ ys.length c _ hlen (fun j u hu => ?_) (fun u hu => ?_), fun i hi => by rw [hsub i hi]; exact (hel i hi).2⟩
    · rw [add_eq, cell_at hh]
      rw [List.getElem?_take] at hu
      split at hu
      · rw [List.getElem?_drop] at hu; simpa using hu
      · cases hu
    · obtain ⟨m, hm, rfl⟩ := List.mem_iff_getElem.1 hu
      have hdm : m / d.sz < ys.length := by
        rw [hlen] at hm
        exact (Nat.div_lt_iff_lt_mul d.pos).2 hm
      refine d.rd_one (hel _ hdm).2 _ ?_
      rw [← hsub _ hdm]
      have : m = m / d.sz * d.sz + m % d.sz := by rw [Nat.mul_comm]; exact (Nat.div_add_mod m d.sz).symm
      refine List.mem_iff_getElem?.2 ⟨m % d.sz, ?_⟩
      rw [List.getElem?_take, if_pos (Nat.mod_lt _ d.pos), List.getElem?_drop, ← this, List.getElem?_eq_getElem hm]
/-- A slice that is read appended to a row of plain elements. -/
theorem wpList_appS {P : Program} {ops : Array Oper} {rest : List Oper} {o : Oper} {a : Act} {Q : Exit → Act → World → Prop} {enc : α → Value} {h1 : ∀ x, (enc x).oneCell' = true} (hgd : o.guard = none) (s x : Operand) (t tx e0 : TypeId)
    (hop : o.op = .call { callee := .builtin .append, args := #[s, x], argTypes := #[t, tx] }) (hk : P.underlying tx = some (.slice e0)) (e : TypeId) (B : List Nat) (xs ys : List α) (S : Nat → Prop) (v xv : Value) (hv : a.eval s = v) (hxv : a.eval x = xv)
    (h : Row (fun cs x => cs = [enc x]) 1 e B w v xs) (hy : SlRd (scalar enc h1) S w xv ys) (z : Value) (bytes : Nat) (ht : P.underlying t = some (.slice e)) (hinfo : (P.info? e).map (fun i => (i.zero, i.size, i.bytes)) = some (some z, 1, bytes)) (hz : z.cells.size = 1)
    (hbytes : (xs.length + ys.length) * bytes ≤ 140737488355328) (h63 : xs.length + ys.length ≤ 140737488355328)
    (hK : ∀ v' w' B', Row (fun cs x => cs = [enc x]) 1 e B' w' v' (xs ++ ys) → Chg B w w' → (∀ k ∈ B', k ∈ B ∨ w.heap.size ≤ k) → wpList P ops Q rest (a.put o.dst v') w') : wpList P ops Q (o :: rest) a w := by
  obtain ⟨ad, c, rfl, _, _⟩ := hy.form
  obtain ⟨news, hsrc, hel⟩ := Src.ofRd (P := P) hk hy
  exact wpList_row hgd s x t tx hop _ 1 e B xs ys v _ hv hxv h Nat.one_pos z bytes ht hinfo hz news hsrc hel hbytes h63 hK
/-- A row whose elements are read in the same world is a slice that is read. -/
theorem Row.rd (h : Row (d.Rd S w) d.sz e B w v xs) : SlRd d (fun k => S k ∨ k ∈ B) w v xs := by
  rcases h with ⟨rfl, rfl, a, rfl⟩ | ⟨b, cap, cells, rfl, rfl, hh, h1, h2, h3, h4⟩
  · exact ⟨a, 0, rfl, Nat.le_refl _, by simp [maxLen], fun hp => absurd hp (by simp)⟩
  · refine ⟨_, cap, rfl, h1, h2, fun _ => ⟨b, 0, cells, e, (0, 0), rfl, .inr (by simp), hh, fun i hi => ⟨_, d.rd_mono (h4 i hi) (fun k hk => .inl hk) (Same.refl _ _), fun j u hu => ?_⟩⟩⟩
    rw [Nat.zero_add]; exact take_drop_get hu
theorem one_cell {cells : Array Value} {j : Nat} {u : Value} (h : cells[j]? = some u) : (cells.toList.drop (j * 1)).take 1 = [u] :=
  list_eq_get rfl (fun i hi => by
    have : i = 0 := by omega
    subst this
    rw [List.getElem?_drop, Nat.mul_one]
    simpa using h)
/-- A store into a row of elements of one cell. -/
theorem Row.store {n cap : Nat} {a : Option Addr} (h : Row R 1 e B w (.slice a n cap) xs) (i : Nat) (hi : i < xs.length) :
    ∃ b : Nat, B = [b] ∧ a = some ⟨b, 0, none⟩ ∧ b < w.heap.size ∧ (∃ u, w.cell? ⟨b, i, none⟩ = some u) ∧ w.frozen? ⟨b, i, none⟩ = false := by
  rcases h with ⟨rfl, _⟩ | ⟨b, cap', cells, hv, rfl, hh, h1, h2, h3, h4⟩
  · simp at hi
  cases hv
  have : i < cells.size := by omega
  exact ⟨b, rfl, rfl, (Array.getElem?_eq_some_iff.1 hh).1, ⟨cells[i], by rw [cell_at hh]; simp [this]⟩, by simp [World.frozen?, hh]⟩
theorem Row.set {n cap b : Nat} (h : Row R 1 e [b] w (.slice (some ⟨b, 0, none⟩) n cap) xs) (i : Nat) (hi : i < xs.length) (u : Value) (x : α) (hx : R [u] x) :
    Row R 1 e [b] (w.setCell ⟨b, i, none⟩ u) (.slice (some ⟨b, 0, none⟩) n cap) (xs.set i x) := by
  rcases h with ⟨rfl, _⟩ | ⟨b', cap', cells, hv, hB, hh, h1, h2, h3, h4⟩
  · simp at hi
  cases hv
  refine .inr ⟨b, cap, _, by simp, rfl, heap_setCell hh i u, by simpa using h1, h2, by simpa using h3, fun j hj => ?_⟩
  simp only [List.length_set] at hj
  by_cases e : i = j
  · subst e
    rw [one_cell (cells := cells.setIfInBounds i u) (j := i) (u := u) (by rw [Array.getElem?_setIfInBounds]; simp; omega)]
    simpa using hx
  · have hjs : j < cells.size := by omega
    rw [List.getElem_set_ne e, one_cell (cells := cells.setIfInBounds i u) (j := j) (u := cells[j]) (by rw [Array.getElem?_setIfInBounds, if_neg e]; simp [hjs])]
    have := h4 j hj
    rw [one_cell (cells := cells) (j := j) (u := cells[j]) (by simp [hjs])] at this
    exact this
/-- A row over elements that were read in an elder world is a slice that is read. -/
theorem Row.rdUp {w0 : World} (h : Row (d.Rd S w0) d.sz e B w v xs) (hS : Same S w0 w) : SlRd d (fun k => S k ∨ k ∈ B) w v xs :=
  (h.imp (fun _ _ _ hr => d.rd_mono hr (fun _ hb => hb) hS) (Same.refl _ _)).rd
/-- A row of plain elements is owned. -/
theorem Row.own {enc : α → Value} {h1 : ∀ x, (enc x).oneCell' = true} (h : Row (fun cs x => cs = [enc x]) 1 e B w v xs) : SlOwn (scalar enc h1) e B w v xs := by
  rcases h with h | ⟨b, cap, cells, rfl, rfl, hh, h1, h2, h3, h4⟩
  · exact .inl h
  · refine SlOwn.scalar_mk hh h1 h2 (by simpa using h3) (fun i hi => ?_)
    have := congrArg (fun l => l[0]?) (h4 i hi)
    simp only [Nat.mul_one, List.getElem?_take, List.getElem?_drop] at this
    simpa using this
theorem SlOwn.row {enc : α → Value} {h1 : ∀ x, (enc x).oneCell' = true} (h : SlOwn (scalar enc h1) e F w v xs) : Row (fun cs x => cs = [enc x]) 1 e F w v xs := by
  rcases h with h | ⟨b, cap, cells, Fs, rfl, rfl, hh, h1, h2, h3, h4, h5⟩
  · exact .inl h
  · have hF : Fs.flatten = [] := by
      rw [List.flatten_eq_nil_iff]
      intro l hl
      obtain ⟨i, hi, rfl⟩ := List.mem_iff_getElem.1 hl
      exact (h5 i (by omega) hi).1
    exact .inr ⟨b, cap, cells, rfl, by rw [hF], hh, h1, h2, h3, fun i hi => (h5 i hi (by omega)).2⟩
/-- A row of elements that are owned, each with its blocks, is owned. -/
theorem Row.ownAll {ps : List (List Nat × α)} (h : Row (fun cs p => d.Own p.1 w cs p.2) d.sz e B w v ps) : SlOwn d e (B ++ (ps.map Prod.fst).flatten) w v (ps.map Prod.snd) := by
  rcases h with ⟨rfl, rfl, a, rfl⟩ | ⟨b, cap, cells, rfl, rfl, hh, h1, h2, h3, h4⟩
  · exact .inl ⟨rfl, rfl, a, rfl⟩
  · refine .inr ⟨b, cap, cells, ps.map Prod.fst, by simp, rfl, hh, by simpa using h1, h2, h3, by simp, fun i hi hi' => ?_⟩
    simp only [List.getElem_map]
    exact h4 i (by simpa using hi)
theorem SlOwn.rowAll (h : SlOwn d e F w v xs) : ∃ (ps : List (List Nat × α)) (B : List Nat), ps.map Prod.snd = xs ∧ F = B ++ (ps.map Prod.fst).flatten ∧ Row (fun cs p => d.Own p.1 w cs p.2) d.sz e B w v ps := by
  rcases h with ⟨rfl, rfl, a, rfl⟩ | ⟨b, cap, cells, Fs, rfl, rfl, hh, h1, h2, h3, h4, h5⟩
  · exact ⟨[], [], rfl, rfl, .inl ⟨rfl, rfl, a, rfl⟩⟩
  · have e1 : (Fs.zip xs).map Prod.snd = xs := List.map_snd_zip (by omega)
    have e2 : (Fs.zip xs).map Prod.fst = Fs := List.map_fst_zip (by omega)
    refine ⟨Fs.zip xs, [b], e1, by rw [e2]; rfl, .inr ⟨b, cap, cells, ?_, rfl, hh, ?_, h2, h3, fun i hi => ?_⟩⟩
    · rw [List.length_zip, h4, Nat.min_self]
    · rw [List.length_zip, h4, Nat.min_self]; exact h1
    · rw [List.length_zip, h4, Nat.min_self] at hi
      rw [List.getElem_zip]
      exact h5 i hi (by omega)
/-- A row of plain elements that was made since w0; all that was there then is as it was. -/
def Mine (enc : α → Value) (e : TypeId) (w0 w : World) (v : Value) (xs : List α) : Prop := ∃ B, Row (fun cs x => cs = [enc x]) 1 e B w v xs ∧ (∀ b ∈ B, w0.heap.size ≤ b) ∧ Chg [] w0 w
theorem Mine.of {enc : α → Value} {h1 : ∀ x, (enc x).oneCell' = true} {w0 : World} (h : SlOwn (scalar enc h1) e F w v xs) (hF : ∀ b ∈ F, w0.heap.size ≤ b) (hc : Chg [] w0 w) : Mine enc e w0 w v xs := ⟨F, h.row, hF, hc⟩
theorem Mine.chg {enc : α → Value} {w0 : World} (h : Mine enc e w0 w v xs) : Chg [] w0 w := h.choose_spec.2.2
theorem Mine.up {enc : α → Value} {w0 : World} (h : Mine enc e w0 w v xs) (hc : Chg [] w w') : Mine enc e w0 w' v xs := by
  obtain ⟨B, h1, h2, h3⟩ := h
  exact ⟨B, h1.imp (fun _ _ _ h => h) (hc.same (fun b hb => ⟨h1.lt b hb, by simp⟩)), h2, h3.trans hc⟩
theorem Mine.own {enc : α → Value} {h1 : ∀ x, (enc x).oneCell' = true} {w0 : World} (h : Mine enc e w0 w v xs) : ∃ F, SlOwn (scalar enc h1) e F w v xs ∧ F.Nodup ∧ (∀ b ∈ F, w0.heap.size ≤ b) ∧ Chg [] w0 w := by
  obtain ⟨B, h1, h2, h3⟩ := h
  exact ⟨B, h1.own, h1.nodup, h2, h3⟩
theorem Mine.rd {enc : α → Value} {h1 : ∀ x, (enc x).oneCell' = true} {w0 : World} (h : Mine enc e w0 w v xs) : SlRd (scalar enc h1) (fun b => b < w.heap.size) w v xs := by
  obtain ⟨B, h1, h2, h3⟩ := h
  exact h1.own.rd.mono (fun b hb => h1.lt b hb) (Same.refl _ _)
theorem Mine.form {enc : α → Value} {w0 : World} (h : Mine enc e w0 w v xs) : ∃ (a : Option Addr) (c : Nat), v = .slice a xs.length c ∧ xs.length ≤ c ∧ c ≤ maxLen := by
  obtain ⟨B, h1, h2, h3⟩ := h
  exact h1.form
theorem Mine.nil {enc : α → Value} {w0 : World} (hc : Chg [] w0 w) (a : Option Addr) : Mine enc e w0 w (.slice a 0 0) [] := ⟨[], Row.nil _ _ _ _ _, by simp, hc⟩
theorem Mine.step {enc : α → Value} {w0 : World} (hB : ∀ b ∈ B, w0.heap.size ≤ b) (h3 : Chg [] w0 w) {B' : List Nat} {v' : Value} {ys : List α} (h : Row (fun cs x => cs = [enc x]) 1 e B' w' v' ys) (hc : Chg B w w') (hB' : ∀ k ∈ B', k ∈ B ∨ w.heap.size ≤ k) : Mine enc e w0 w' v' ys :=
  ⟨B', h, fun k hk => by
    rcases hB' k hk with h | h
    · exact hB k h
    · exact Nat.le_trans h3.size h, h3.step hc (fun b hb => .inr (hB b hb))⟩
theorem wpList_mineL {P : Program} {ops : Array Oper} {rest : List Oper} {o : Oper} {a : Act} {Q : Exit → Act → World → Prop} {enc : α → Value} {w0 : World} (hgd : o.guard = none) (s x : Operand) (t : TypeId)
    (hop : o.op = .call { callee := .builtin .append, args := #[s, x], argTypes := #[t, t] }) (e e' : TypeId) (xs ys : List α) (v : Value) (cs : Array Value) (n : Nat) (hv : a.eval s = v) (hxv : a.eval x = .slice (some ⟨w.heap.size, 0, none⟩) n n)
    (h : Mine enc e w0 w v xs) (hu : cs.toList = ys.map enc) (hn : ys.length = n) (h1 : ∀ y, (enc y).oneCell' = true) (z : Value) (bytes : Nat) (ht : P.underlying t = some (.slice e)) (hinfo : (P.info? e).map (fun i => (i.zero, i.size, i.bytes)) = some (some z, 1, bytes)) (hz : z.cells.size = 1)
    (hbytes : (xs.length + ys.length) * bytes ≤ 140737488355328) (h63 : xs.length + ys.length ≤ 140737488355328)
    (hK : ∀ v' w', Mine enc e w0 w' v' (xs ++ ys) → wpList P ops Q rest (a.put o.dst v') w') : wpList P ops Q (o :: rest) a (w.alloc (.cells cs e')) := by
  obtain ⟨B, hr, hB, hc⟩ := h
  exact wpList_appL hgd s x t hop e e' B xs ys v cs n hv hxv hr hu hn h1 z bytes ht hinfo hz hbytes h63 (fun v' w' B' k1 k2 k3 => hK v' w' (Mine.step hB hc k1 k2 k3))
theorem wpList_mineS {P : Program} {ops : Array Oper} {rest : List Oper} {o : Oper} {a : Act} {Q : Exit → Act → World → Prop} {enc : α → Value} {h1 : ∀ x, (enc x).oneCell' = true} {w0 : World} (hgd : o.guard = none) (s x : Operand) (t tx e0 : TypeId)
    (hop : o.op = .call { callee := .builtin .append, args := #[s, x], argTypes := #[t, tx] }) (hk : P.underlying tx = some (.slice e0)) (e : TypeId) (xs ys : List α) (S : Nat → Prop) (v xv : Value) (hv : a.eval s = v) (hxv : a.eval x = xv)
    (h : Mine enc e w0 w v xs) (hy : SlRd (scalar enc h1) S w xv ys) (z : Value) (bytes : Nat) (ht : P.underlying t = some (.slice e)) (hinfo : (P.info? e).map (fun i => (i.zero, i.size, i.bytes)) = some (some z, 1, bytes)) (hz : z.cells.size = 1)
    (hbytes : (xs.length + ys.length) * bytes ≤ 140737488355328) (h63 : xs.length + ys.length ≤ 140737488355328)
    (hK : ∀ v' w', Mine enc e w0 w' v' (xs ++ ys) → wpList P ops Q rest (a.put o.dst v') w') : wpList P ops Q (o :: rest) a w := by
  obtain ⟨B, hr, hB, hc⟩ := h
  exact wpList_appS hgd s x t tx e0 hop hk e B xs ys S v xv hv hxv hr hy z bytes ht hinfo hz hbytes h63 (fun v' w' B' k1 k2 k3 => hK v' w' (Mine.step hB hc k1 k2 k3))
end
end Sh
end Go.Proofs.Ytjolhaefnloaoaa
