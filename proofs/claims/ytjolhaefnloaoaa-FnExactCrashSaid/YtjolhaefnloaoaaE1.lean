/- The reference's list of the writes to a sector. -/
import Derived.Test.YtjolhaefnloaoaaD5
import Derived.Test.YtjolhaefnloaoaaM3
namespace Go.Proofs.Ytjolhaefnloaoaa
open Go.RowKit Sh

/-- The pending writes' data as values. -/
theorem pend_vals {S : Nat → Prop} {w : World} {a : Option Addr} {n c : Nat} {ps : List PendD} (h : SlRd pendSh S w (.slice a n c) ps) : ∃ sv : Nat → Option Addr × Nat × Nat, ∀ (m : Nat) (hm : m < ps.length),
    ∃ (b o : Nat), a = some ⟨b, o, none⟩ ∧ S b ∧ b < w.heap.size ∧ w.cell? ⟨b, o + m * 2, none⟩ = some (.int .i64 ps[m].pos) ∧ w.cell? ⟨b, o + m * 2 + 1, none⟩ = some (.slice (sv m).1 (sv m).2.1 (sv m).2.2) ∧ SlRd byte S w (.slice (sv m).1 (sv m).2.1 (sv m).2.2) ps[m].data := by
  have h1 : ∀ m : Nat, ∃ p : Option Addr × Nat × Nat, ∀ hm : m < ps.length, ∃ (b o : Nat), a = some ⟨b, o, none⟩ ∧ S b ∧ b < w.heap.size ∧ w.cell? ⟨b, o + m * 2, none⟩ = some (.int .i64 ps[m].pos) ∧ w.cell? ⟨b, o + m * 2 + 1, none⟩ = some (.slice p.1 p.2.1 p.2.2) ∧ SlRd byte S w (.slice p.1 p.2.1 p.2.2) ps[m].data := by
    intro m
    by_cases hm : m < ps.length
    · obtain ⟨b, o, u, ha, hS, hb, h0, h1, hr⟩ := pend_cell h m hm
      obtain ⟨a', c', rfl, _, _⟩ := hr.form
      exact ⟨(a', _, c'), fun _ => ⟨b, o, ha, hS, hb, h0, h1, hr⟩⟩
    · exact ⟨(none, 0, 0), fun h => absurd h hm⟩
  exact ⟨fun m => (h1 m).choose, fun m hm => (h1 m).choose_spec hm⟩
/-- A data value by its number. -/
def encV (sv : Nat → Option Addr × Nat × Nat) (m : Nat) : Value := .slice (sv m).1 (sv m).2.1 (sv m).2.2
theorem encV_one (sv : Nat → Option Addr × Nat × Nat) (m : Nat) : (encV sv m).oneCell' = true := rfl
/-- Rows of data values read as rows of data. -/
theorem mine_data {S : Nat → Prop} {w0 w : World} {sv : Nat → Option Addr × Nat × Nat} {e : TypeId} {v : Value} {is : List Nat} {ps : List PendD} (h : Mine (encV sv) e w0 w v is) (hr : ∀ m ∈ is, SlRd byte S w (encV sv m) (datum ps m)) (hS : ∀ b, S b → b < w.heap.size) :
    SlRd bytesSh (fun b => b < w.heap.size) w v (is.map (datum ps)) := by
  obtain ⟨B, hrow, _, _⟩ := h
  rcases hrow with ⟨rfl, rfl, a, rfl⟩ | ⟨b, cap, cells, rfl, rfl, hh, h1, h2, h3, h4⟩
  · exact ⟨a, 0, rfl, by simp, by simp [maxLen], by simp⟩
  · refine ⟨some ⟨b, 0, none⟩, cap, by simp, by simpa using h1, h2, fun _ => ⟨b, 0, cells, e, (0, 0), rfl, lt_block hh, hh, fun i hi => ?_⟩⟩
    have hi' : i < is.length := by simpa using hi
    have h5 := h4 i hi'
    refine ⟨[encV sv is[i]], ⟨_, rfl, ?_⟩, fun j u hu => ?_⟩
    · simp only [List.getElem_map]
      exact (hr _ (List.getElem_mem hi')).mono (fun b hb => hS b hb) (Same.refl _ _)
    · have hj : j = 0 := by
        rcases j with _ | j
        · rfl
        · simp at hu
      subst hj
      have h6 : ((cells.toList.drop (i * 1)).take 1)[0]? = some u := by rw [h5]; exact hu
      rw [List.getElem?_take, if_pos (by omega), List.getElem?_drop] at h6
      simpa [bytesSh_sz] using h6

set_option maxRecDepth 100000 in
set_option maxHeartbeats 2000000 in
theorem spec_l1Writes_calls (v1 v2 : Value) (at_ : Int) (D : DiskD) (S : Nat → Prop) (w : World) (h : DiskRd S w v1 v2 D) (hS : ∀ b, S b → b < w.heap.size) (hl : D.pend.length ≤ 1048576) :
    Calls Try.prog 64 #[.agg #[v1, v2], .int .i64 at_] w fun e w' => ∃ v', e = .returned v' ∧ SlRd bytesSh (fun b => b < w'.heap.size) w' v' ((idxOf D.pend at_).map (datum D.pend)) ∧ Chg [] w w' := by
  obtain ⟨h1, h2⟩ := h
  obtain ⟨a1, c1, rfl, _, _⟩ := h1.form
  obtain ⟨a2, c2, rfl, _, _⟩ := h2.form
  have hb1 := h1.bound
  have hb2 := h2.bound
  obtain ⟨sv, hsv⟩ := pend_vals h2
  have HV := Lib.hid hsv
  clear hsv h1 h2
  obtain ⟨N, hN⟩ : ∃ N, N = w.heap.size := ⟨_, rfl⟩
  obtain ⟨W0, hW0⟩ : ∃ W0 : World, W0 = ((w.alloc (.cells #[.slice a1 D.safe.length c1, .slice a2 D.pend.length c2] 26)).alloc (.cells #[] 22)) := ⟨_, rfl⟩
  have HWs := Lib.hid (show W0.heap.size = N + 2 by rw [hW0, hN]; simp)
  have HBox := Lib.hid (show W0.heap[N]? = some (.cells #[.slice a1 D.safe.length c1, .slice a2 D.pend.length c2] 26 (0, 0)) by
    rw [hW0, hN]; exact alloc_past (alloc_at rfl))
  have HW := Lib.hid (show Chg [] w W0 by rw [hW0]; exact ((Chg.refl [] w).alloc _).alloc _)
  go_enter Try.func64, Try.ntmps64
  go_wp2
  rw [← hW0, ← hN]
  clear hW0
  have HNS := Lib.hid (show ∀ b, S b → b < N from fun b hb => hN ▸ hS b hb)
  clear hS
  have HN := Lib.hid hN
  clear hN
  go_loopw [5, 6] (fun u i wr => ∃ q : Nat, q ≤ D.pend.length ∧ i = .int .i64 q ∧ Mine (encV sv) 22 W0 wr u (idxOf (D.pend.take q) at_)) (fun _ i _ => D.pend.length - (intOf i).toNat)
  case atStart => exact ⟨0, by omega, rfl, by simpa [idxOf] using Mine.nil (Chg.refl [] W0) _⟩
  case round =>
    obtain ⟨q, hq, rfl, hm⟩ := hrel
    obtain ⟨au, cu, rfl, _, _⟩ := hm.form
    have hchg := hm.chg
    have hNw := HWs.out
    have hbx := hchg.cell (b := N) (o := 1) (by omega) (by simp)
    have hbox1 : wr.cell? ⟨N, 1, none⟩ = some (.slice a2 D.pend.length c2) := hbx.1.trans (cell_block HBox.out 1)
    have hil := idxOf_length_le (D.pend.take q) at_
    clear hbx
    by_cases hlt : q < D.pend.length
    · obtain ⟨b, o, rfl, hSb, hbl, hcell0, hcell1, hr⟩ := HV.out q hlt
      have hw1 := HW.out.trans hchg
      have hc0 := (hw1.cell (o := o + q * 2) hbl (by simp)).1.trans hcell0
      have hc1 := (hw1.cell (o := o + q * 2 + 1) hbl (by simp)).1.trans hcell1
      have HM := Lib.hid hm
      have hSn := idxOf_snoc (D.pend.take q) D.pend[q] at_
      have hTl : (D.pend.take q).length = q := by simp; omega
      rw [← take_snoc D.pend q hlt, hTl] at hSn
      rw [hTl] at hil
      have HSn := Lib.hid hSn
      have hwf1 := hm.chg.size
      clear hSn hTl hm hchg hcell0 hcell1 hw1 hr
      by_cases hp : D.pend[q].pos = at_
      · have hpb : (D.pend[q].pos == at_) = true := by simp [hp]
        clear hp
        go_wp2_with (at_builtin; refine wpList_mineL rfl _ _ 23 rfl 22 22 (idxOf (D.pend.take q) at_) [q] (.slice au (idxOf (D.pend.take q) at_).length cu) #[encV sv q] 1 rfl rfl HM.out rfl rfl (encV_one sv) (.slice none 0 0) 24 Try.underlying23 info_bytes rfl (by simp; omega) (by simp; omega) ?_)
        intro v' w' hm'
        obtain ⟨an, cn, rfl, _, _⟩ := hm'.form
        have HM' := Lib.hid hm'
        clear hm'
        go_wp2
        go_roundw
        case rel => exact ⟨q + 1, by omega, by go_num, by rw [HSn.out, if_pos (by simpa using hpb)]; exact HM'.out⟩
        case measure => simp [intOf]; omega
      · have hpb : (D.pend[q].pos == at_) = false := by simp [hp]
        clear hp
        go_wp2
        go_roundw
        case rel => exact ⟨q + 1, by omega, by go_num, by rw [HSn.out, if_neg (by simpa using hpb)]; exact HM.out⟩
        case measure => simp [intOf]; omega
    · obtain rfl : q = D.pend.length := by omega
      have HM := Lib.hid hm
      clear hm
      go_wp2
      go_ret
      have hw1 := HW.out.trans HM.out.chg
      have hS' : ∀ b, S b → b < w.heap.size := fun b hb => by have := HNS.out b hb; have := HN.out; omega
      have h9 := mine_data (S := S) HM.out (fun m hm => by
        rw [List.take_length] at hm
        obtain ⟨hmlt, _⟩ := idxOf_lt hm
        obtain ⟨_, _, _, _, _, _, _, hr⟩ := HV.out m hmlt
        rw [datum_eq hmlt]
        exact hr.up hS' hw1) (fun b hb => Nat.lt_of_lt_of_le (hS' b hb) hw1.size)
      exact ⟨_, rfl, (show SlRd bytesSh _ wr (.slice au (idxOf (D.pend.take D.pend.length) at_).length cu) _ from by simpa only [List.take_length] using h9), hw1⟩
end Go.Proofs.Ytjolhaefnloaoaa
