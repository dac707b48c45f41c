/- The device's crash. -/
import Derived.Test.YtjolhaefnloaoaaE2
namespace Go.Proofs.Ytjolhaefnloaoaa
open Go.RowKit Sh

/-- The pending writes of each sector, gathered in a map: a row of data values for each. -/
structure Grp (sv : Nat → Option Addr × Nat × Nat) (ps : List PendD) (lo : Nat) (w : World) (M n : Nat) (g : Int → Option Value) (Bf : Int → List Nat) : Prop where
  map : MapI Try.prog 3 w M n g
  row : ∀ x : Int, Row (fun cs m => cs = [encV sv m]) 1 22 (Bf x) w ((g x).getD (.slice none 0 0)) (idxOf ps x)
  fresh : ∀ x, ∀ k ∈ Bf x, lo ≤ k ∧ k ≠ M
  dis : ∀ x y, x ≠ y → ∀ k ∈ Bf x, k ∉ Bf y

theorem Grp.up {sv : Nat → Option Addr × Nat × Nat} {ps : List PendD} {lo : Nat} {w w' : World} {M n : Nat} {g : Int → Option Value} {Bf : Int → List Nat} {F : List Nat} (h : Grp sv ps lo w M n g Bf) (hc : Chg F w w') (hM : M ∉ F) (hB : ∀ x, ∀ k ∈ Bf x, k ∉ F) : Grp sv ps lo w' M n g Bf :=
  ⟨h.map.up hc hM, fun x => (h.row x).imp (fun _ _ _ h => h) (hc.same fun k hk => ⟨(h.row x).lt k hk, hB x k hk⟩), h.fresh, h.dis⟩

/-- One more: the row of its sector has grown, and stands in the map. -/
theorem Grp.step {sv : Nat → Option Addr × Nat × Nat} {ps : List PendD} {p : PendD} {lo : Nat} {w w1 w2 : World} {M n : Nat} {g g' : Int → Option Value} {Bf : Int → List Nat} {B' : List Nat} {v' : Value} (h : Grp sv ps lo w M n g Bf) (hlo : lo ≤ w.heap.size) (hMw : M < w.heap.size)
    (hr : Row (fun cs m => cs = [encV sv m]) 1 22 B' w1 v' (idxOf ps p.pos ++ [ps.length])) (hc1 : Chg (Bf p.pos) w w1) (hB' : ∀ k ∈ B', k ∈ Bf p.pos ∨ w.heap.size ≤ k)
    (hm : MapI Try.prog 3 w2 M (n + 1) g') (hg : g' = fun y => if y = p.pos then some v' else g y) (hc2 : Chg [M] w1 w2) :
    Grp sv (ps ++ [p]) lo w2 M (n + 1) g' (fun x => if x = p.pos then B' else Bf x) := by
  have hB2 : ∀ k ∈ B', lo ≤ k ∧ k ≠ M := fun k hk => by
    rcases hB' k hk with h1 | h1
    · exact h.fresh _ k h1
    · exact ⟨by omega, by omega⟩
  refine ⟨hm, fun x => ?_, fun x => ?_, fun x y hxy => ?_⟩
  · rw [idxOf_snoc, hg]
    by_cases hx : x = p.pos
    · subst hx
      simp only [if_true, Option.getD_some]
      exact hr.imp (fun _ _ _ h => h) (hc2.same fun k hk => ⟨hr.lt k hk, by simp; exact (hB2 k hk).2⟩)
    · have hx' : ¬ p.pos = x := fun e => hx e.symm
      simp only [hx, hx', if_false]
      have h1 := (h.row x).imp (fun _ _ _ h => h) (hc1.same fun k hk => ⟨(h.row x).lt k hk, h.dis x p.pos hx k hk⟩)
      exact h1.imp (fun _ _ _ h => h) (hc2.same fun k hk => ⟨h1.lt k hk, by simp; exact (h.fresh x k hk).2⟩)
  · split
    · exact hB2
    · exact h.fresh x
  · by_cases hx : x = p.pos
    · have hy : ¬ y = p.pos := fun e => hxy (hx.trans e.symm)
      simp only [hx, hy, if_true, if_false]
      intro k hk hm2
      rcases hB' k hk with h1 | h1
      · exact h.dis p.pos y (fun e => hy e.symm) k h1 hm2
      · have := (h.row y).lt k hm2; omega
    · by_cases hy : y = p.pos
      · simp only [hx, hy, if_true, if_false]
        intro k hk hm2
        rcases hB' k hm2 with h1 | h1
        · exact h.dis x p.pos hx k hk h1
        · have := (h.row x).lt k hk; omega
      · simp only [hx, hy, if_false]
        exact h.dis x y hxy

/-- The pending writes' data as values, each with the blocks that it owns. -/
theorem pend_owns {e : TypeId} {F : List Nat} {w : World} {a : Option Addr} {n c : Nat} {ps : List PendD} (h : SlOwn pendSh e F w (.slice a n c) ps) (hF : F.Nodup) : ∃ (sv : Nat → Option Addr × Nat × Nat) (Gs : Nat → List Nat),
    (∀ (m : Nat) (hm : m < ps.length), ∃ (b o : Nat), a = some ⟨b, o, none⟩ ∧ b ∈ F ∧ b < w.heap.size ∧ w.cell? ⟨b, o + m * 2, none⟩ = some (.int .i64 ps[m].pos) ∧ w.cell? ⟨b, o + m * 2 + 1, none⟩ = some (.slice (sv m).1 (sv m).2.1 (sv m).2.2) ∧ SlRd byte (· ∈ F) w (.slice (sv m).1 (sv m).2.1 (sv m).2.2) ps[m].data) ∧
    (∀ (m : Nat) (hm : m < ps.length), SlOwn byte 5 (Gs m) w (encV sv m) ps[m].data ∧ (Gs m).Nodup ∧ ∀ k ∈ Gs m, k ∈ F) ∧
    ∀ m m', m < ps.length → m' < ps.length → m ≠ m' → ∀ k ∈ Gs m, k ∉ Gs m' := by
  obtain ⟨sv, hsv⟩ := pend_vals h.rd
  rcases h with ⟨rfl, rfl, a', _⟩ | ⟨b, cap, cells, Fs, hv, rfl, hh, h1, h2, h3, h4, h5⟩
  · exact ⟨sv, fun _ => [], fun m hm => absurd hm (by simp), fun m hm => absurd hm (by simp), fun m _ hm => absurd hm (by simp)⟩
  · cases hv
    rw [List.nodup_cons] at hF
    have hp := hF.2
    unfold List.Nodup at hp
    rw [List.pairwise_flatten] at hp
    refine ⟨sv, fun m => Fs.getD m [], hsv, fun m hm => ?_, fun m m' hm hm' hne k hk hk' => ?_⟩
    · have hm' : m < Fs.length := by omega
      have hg : Fs.getD m [] = Fs[m] := by rw [List.getD_eq_getElem?_getD, List.getElem?_eq_getElem hm']; rfl
      obtain ⟨c0, c1, G0, G1, hcs, hFm, ⟨rfl, rfl⟩, u, rfl, hu⟩ := h5 m hm hm'
      obtain ⟨b', o', ha, _, _, _, hc1, _⟩ := hsv m hm
      cases ha
      have h9 : cells[m * 2 + 1]? = some u := take_drop_get (n := 2) (by
        have : ((cells.toList.drop (m * 2)).take 2)[1]? = some u := by
          have h0 : ((cells.toList.drop (m * pendSh.sz)).take pendSh.sz)[1]? = some u := by rw [hcs]; rfl
          exact h0
        exact this)
      rw [cell_at hh] at hc1
      have hu2 : u = encV sv m := by
        have : cells[0 + m * 2 + 1]? = some u := by rw [Nat.zero_add]; exact h9
        rw [this] at hc1
        exact Option.some.inj hc1
      dsimp only
      rw [hg, hFm, List.nil_append]
      rw [List.nil_append] at hFm
      refine ⟨hu2 ▸ hu, ?_, fun k hk => List.mem_cons_of_mem _ (mem_flatten hm' (by rw [hFm]; exact hk))⟩
      have := hp.1 _ (List.getElem_mem hm')
      rwa [hFm] at this
    · have hmF : m < Fs.length := by omega
      have hmF' : m' < Fs.length := by omega
      dsimp only at hk hk'
      rw [List.getD_eq_getElem?_getD, List.getElem?_eq_getElem hmF] at hk
      rw [List.getD_eq_getElem?_getD, List.getElem?_eq_getElem hmF'] at hk'
      simp only [Option.getD_some] at hk hk'
      have hq := hp.2
      rw [List.pairwise_iff_getElem] at hq
      rcases Nat.lt_or_gt_of_ne hne with hlt | hlt
      · exact hq m m' hmF hmF' hlt k hk k hk' rfl
      · exact hq m' m hmF' hmF hlt k hk' k hk rfl
end Go.Proofs.Ytjolhaefnloaoaa
