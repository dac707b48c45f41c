/- The reference's disk: what its sectors hold now. -/
import Derived.Test.YtjolhaefnloaoaaB2
namespace Go.Proofs.Ytjolhaefnloaoaa
open Go.RowKit Sh

set_option maxRecDepth 100000 in
set_option maxHeartbeats 2000000 in
theorem spec_l1Now_calls (v1 v2 : Value) (D : DiskD) (S : Nat → Prop) (w : World) (h : DiskRd S w v1 v2 D) (hS : ∀ b, S b → b < w.heap.size) (hok : DiskOkP D) :
    Calls Try.prog 34 #[.agg #[v1, v2]] w fun e w' => ∃ v', e = .returned v' ∧ SlRd bytesSh (fun b => b < w'.heap.size) w' v' (nowD D) ∧ Chg [] w w' := by
  obtain ⟨h1, h2⟩ := h
  obtain ⟨a1, c1, rfl, _, _⟩ := h1.form
  obtain ⟨a2, c2, rfl, _, _⟩ := h2.form
  have hb1 := h1.bound
  have hb2 := h2.bound
  have hl := hok.1.2.1
  have hlp := hok.1.2.2
  have HOK := Lib.hid hok
  clear hok
  obtain ⟨news, hsrc, hel⟩ := Src.ofRd (P := Try.prog) Try.underlying23 (h1.up hS (((Chg.refl [] w).alloc (.cells #[.slice a1 D.safe.length c1, .slice a2 D.pend.length c2] 26)).alloc (.cells #[] 22)))
  have HS := Lib.hid hsrc
  have HE := Lib.hid hel
  clear hsrc hel
  go_enter Try.func34, Try.ntmps34
  go_wp2_with (at_builtin; refine wpList_row rfl _ _ 23 23 rfl (bytesSh.Rd S ((w.alloc (.cells #[.slice a1 D.safe.length c1, .slice a2 D.pend.length c2] 26)).alloc (.cells #[] 22))) 1 22 [] [] D.safe _ _ rfl rfl (Row.nil _ _ _ _ _) (by decide) (.slice none 0 0) 24 Try.underlying23 info_bytes rfl news HS.out HE.out (by simp; omega) (by simp; omega) ?_)
  intro v' w1 B' hrow hchg hB
  obtain ⟨W0, hW0⟩ : ∃ W0, W0 = (w.alloc (.cells #[.slice a1 D.safe.length c1, .slice a2 D.pend.length c2] 26)).alloc (.cells #[] 22) := ⟨_, rfl⟩
  rw [← hW0] at hrow hchg
  have HW := Lib.hid (show Chg [] w W0 from hW0 ▸ ((Chg.refl [] w).alloc _).alloc _)
  have hWs : w.heap.size + 1 ≤ W0.heap.size := by rw [hW0]; simp
  have HBox := Lib.hid (show W0.cell? ⟨w.heap.size, 1, none⟩ = some (.slice a2 D.pend.length c2) by rw [hW0]; simp [World.cell?_alloc_past, World.cell?_alloc_at])
  obtain ⟨a3, c3, rfl, _, _⟩ := hrow.form
  have HR := Lib.hid hrow
  have HC := Lib.hid hchg
  have HB := Lib.hid (show ∀ k ∈ B', W0.heap.size ≤ k from fun k hk => by have := hB k hk; rw [hW0]; simpa using this)
  clear hrow hchg hB hW0 HS HE
  have hbox1 := (HC.out.cells.1 w.heap.size 1 (by omega)).trans HBox.out
  go_wp2
  clear hbox1
  go_loopw [4] (fun i wr => ∃ (q : Nat), q ≤ D.pend.length ∧ i = .int .i64 q ∧ Row (bytesSh.Rd S W0) 1 22 B' wr (.slice a3 D.safe.length c3) (layAll D.safe (D.pend.take q)) ∧ Chg [] W0 wr) (fun i _ => D.pend.length - (intOf i).toNat)
  case atStart => exact ⟨0, by omega, rfl, by simpa [layAll] using HR.out, HC.out⟩
  case round =>
    obtain ⟨q, hq, rfl, hrow, hchg⟩ := hrel
    have hbox := (hchg.cells.1 w.heap.size 1 (by omega)).trans HBox.out
    have HLen := Lib.hid (layAll_length (D.pend.take q) D.safe)
    by_cases hlt : q < D.pend.length
    · obtain ⟨b, o, u, rfl, hSb, hbl, hcell0, hcell1, hr⟩ := pend_cell (h2.up hS HW.out) q hlt
      obtain ⟨e1, e2, e3⟩ := HOK.out.2.2 D.pend[q] (List.getElem_mem hlt)
      have hq0 := (hchg.cells.1 b (o + q * 2) hbl).trans hcell0
      have hq1 := (hchg.cells.1 b (o + q * 2 + 1) hbl).trans hcell1
      have HRow := Lib.hid hrow
      have HC1 := Lib.hid hchg
      obtain ⟨b', hBb, ha, hbl', ⟨q3, hq3⟩, hz3⟩ := HRow.out.store D.pend[q].pos.toNat (by rw [HLen.out]; omega)
      subst ha
      obtain ⟨a4, c4, rfl, _, _⟩ := hr.form
      have HR4 := Lib.hid hr
      have HBb := Lib.hid hBb
      have HSnoc := Lib.hid (show layAll D.safe (D.pend.take (q + 1)) = (layAll D.safe (D.pend.take q)).set D.pend[q].pos.toNat D.pend[q].data by rw [take_snoc D.pend q hlt, layAll_snoc])
      clear hrow hchg hcell0 hcell1 hr hBb e3
      go_wp2
      go_still_tail 14, (by kernel_rfl)
      change wpList _ _ _ _ _ wr.drew
      go_wp2
      go_roundw
      case rel =>
        obtain rfl := HBb.out
        have h5 := HRow.out.set D.pend[q].pos.toNat (by rw [HLen.out]; omega) _ D.pend[q].data ⟨_, rfl, HR4.out⟩
        rw [← HSnoc.out] at h5
        exact ⟨q + 1, by omega, by go_num, h5.imp (fun _ _ _ h => h) (fun _ _ => rfl), (HC1.out.setCell (.inr (HB.out b' (by simp))) _).drew⟩
      case measure => simp [intOf]; omega
    · have HA := Lib.hid (List.take_of_length_le (show D.pend.length ≤ q by omega))
      go_wp2
      go_ret
      rw [HA.out] at hrow
      refine ⟨_, rfl, (hrow.rdUp (hchg.same (fun b hb => ⟨Nat.lt_of_lt_of_le (hS b hb) HW.out.size, by simp⟩))).mono (fun b hb => ?_) (Same.refl _ _), HW.out.trans hchg⟩
      rcases hb with hb | hb
      · exact Nat.lt_of_lt_of_le (Nat.lt_of_lt_of_le (hS b hb) HW.out.size) hchg.size
      · exact hrow.lt b hb
end Go.Proofs.Ytjolhaefnloaoaa
