/- The program's Crash, walked. -/
import Derived.Test.YtjolhaefnloaoaaE4
namespace Go.Proofs.Ytjolhaefnloaoaa
open Go.RowKit Sh Go.MuLone

set_option maxRecDepth 100000 in
set_option maxHeartbeats 2000000 in
theorem impl_Crash_calls (v1 v2 vc : Value) (D : DiskD) (ch : List UInt8) (S : Nat → Prop) (w : World) (h : DiskRd S w v1 v2 D) (hch : SlRd byte S w vc ch) (hS : ∀ b, S b → b < w.heap.size) (hp : PosOk D.pend) (hx : szD D ≤ 1048576) :
    Calls Try.prog 25 #[.agg #[v1, v2], vc] w fun e w' => ∃ u1 u2 F, e = .returned (.tuple #[.agg #[u1, u2], .bool (decide (DiskOkP D))]) ∧ DiskOwn F w' u1 u2 (crashR D ch) ∧ F.Nodup ∧ (∀ b ∈ F, w.heap.size ≤ b) ∧ Chg [] w w' := by
  have hh := h
  obtain ⟨h1, h2⟩ := h
  obtain ⟨a1, c1, rfl, _, _⟩ := h1.form
  obtain ⟨a2, c2, rfl, _, _⟩ := h2.form
  obtain ⟨ac, cc, rfl, _, _⟩ := hch.form
  have hl2 := (sizes_pend hx).1
  have HP := Lib.hid hp
  have HH := Lib.hid hh
  have HCh := Lib.hid hch
  have HS := Lib.hid hS
  have HX := Lib.hid hx
  obtain ⟨N, hN⟩ : ∃ N, N = w.heap.size := ⟨_, rfl⟩
  obtain ⟨W0, hW0⟩ : ∃ W0 : World, W0 = ((w.alloc (.cells #[.slice a1 D.safe.length c1, .slice a2 D.pend.length c2] 26)).alloc (.cells #[.slice none 0 0, .slice none 0 0] 26)) := ⟨_, rfl⟩
  have HWs := Lib.hid (show W0.heap.size = N + 2 by rw [hW0, hN]; simp)
  have HBox := Lib.hid (show W0.heap[N]? = some (.cells #[.slice a1 D.safe.length c1, .slice a2 D.pend.length c2] 26 (0, 0)) by
    rw [hW0, hN]; exact alloc_past (alloc_at rfl))
  have HRes := Lib.hid (show W0.heap[N + 1]? = some (.cells #[.slice none 0 0, .slice none 0 0] 26 (0, 0)) by
    rw [hW0, hN]; exact alloc_at (by simp))
  have HW := Lib.hid (show Chg [] w W0 by rw [hW0]; exact ((Chg.refl [] w).alloc _).alloc _)
  clear hh h1 h2 hch hS hp hx
  go_enter Try.func25, Try.ntmps25
  go_wp2_with fail
  rw [← hW0, ← hN]
  have hb0 : W0.cell? ⟨N, 0, none⟩ = some (.slice a1 D.safe.length c1) := cell_block HBox.out 0
  have hb1 : W0.cell? ⟨N, 1, none⟩ = some (.slice a2 D.pend.length c2) := cell_block HBox.out 1
  have HN := Lib.hid hN
  clear hW0 hN
  have hSW : ∀ b, S b → b < W0.heap.size := fun b hb => by have := HS.out b hb; have := HW.out.size; omega
  refine (impl_clone_calls _ _ D S W0 (HH.out.up HS.out HW.out) hSW HX.out).mono ?_
  rintro e w1 ⟨u1, u2, F1, F2, rfl, ho1, ho2, hnd, hfr, hc1⟩
  obtain ⟨x1, d1, rfl, _, _⟩ := ho1.rd.form
  obtain ⟨x2, d2, rfl, _, _⟩ := ho2.rd.form
  have HO1 := Lib.hid ho1
  have HO2 := Lib.hid ho2
  have HF := Lib.hid hfr
  have HC1 := Lib.hid hc1
  clear ho1 ho2 hfr hc1 hSW
  go_wp2_with fail
  have hd1 : DiskRd (fun k => k ∈ F1 ++ F2) w1 (.slice x1 D.safe.length d1) (.slice x2 D.pend.length d2) D := DiskOwn.rd ⟨F1, F2, rfl, HO1.out, HO2.out⟩
  refine (deviceOf_calls _ _ D _ w1 hd1 (DiskOwn.lt ⟨F1, F2, rfl, HO1.out, HO2.out⟩) HP.out hl2).mono ?_
  rintro e w2 ⟨B, M, rfl, hdev, hBn, hMn, hc2⟩
  have HD := Lib.hid hdev
  have HC2 := Lib.hid hc2
  have hC02 : Chg [] W0 w2 := HC1.out.trans hc2
  have hc0 := (hC02.cell (b := N) (o := 0) (lt_block HBox.out) (by simp)).1.trans hb0
  have hc1 := (hC02.cell (b := N) (o := 1) (lt_block HBox.out) (by simp)).1.trans hb1
  have HC02 := Lib.hid (HW.out.trans hC02)
  have hF1lt := HO1.out.lt
  have hF2lt := HO2.out.lt
  have HF1 := Lib.hid (HO1.out.up hc2)
  have HF2 := Lib.hid (HO2.out.up hc2)
  have hFB : ∀ k ∈ F1 ++ F2, k < w1.heap.size := fun k hk => by
    rcases List.mem_append.1 hk with hk | hk
    · exact hF1lt k hk
    · exact hF2lt k hk
  have HFB := Lib.hid hFB
  have hBox2 := (hC02.block N (lt_block HBox.out) (by simp)).trans HBox.out
  have hRes2 := (hC02.block (N + 1) (lt_block HRes.out) (by simp)).trans HRes.out
  have HRes2 := Lib.hid hRes2
  clear hdev hc2 hC02 hd1 hb0 hb1 hF1lt hF2lt hFB hBox2 hRes2
  go_wp2_with fail
  refine (impl_DiskOk_calls _ _ D S w2 (HH.out.up HS.out HC02.out) (fun b hb => Nat.lt_of_lt_of_le (HS.out b hb) HC02.out.size)).mono ?_
  rintro e w3 ⟨rfl, hc3⟩
  have HD3 := Lib.hid (show Dev w3 B M (.slice x1 D.safe.length d1) (.slice x2 D.pend.length d2) 0 D.pend.length (lastV D.pend) from ⟨(hc3.block B (lt_block HD.out.1) (by simp)).trans HD.out.1, HD.out.2.1.up hc3 (by simp), HD.out.2.2⟩)
  have HC3 := Lib.hid (HC02.out.trans hc3)
  have HF13 := Lib.hid (HF1.out.up hc3)
  have HF23 := Lib.hid (HF2.out.up hc3)
  have hRes3 := (hc3.block (N + 1) (lt_block HRes2.out) (by simp)).trans HRes2.out
  have HRes3 := Lib.hid hRes3
  have hr0 : w3.cell? ⟨N + 1, 0, none⟩ = some (.slice none 0 0) := cell_block hRes3 0
  have hr1 : w3.cell? ⟨N + 1, 1, none⟩ = some (.slice none 0 0) := cell_block hRes3 1
  have hrf0 := free_block hRes3 0
  have hrf1 := free_block hRes3 1
  have hD0 : w3.cell? ⟨B, 2, none⟩ = some (.slice x1 D.safe.length d1) := cell_block HD3.out.1 2
  have hD1 : w3.cell? ⟨B, 3, none⟩ = some (.slice x2 D.pend.length d2) := cell_block HD3.out.1 3
  have hFN : ∀ k ∈ F1 ++ F2, N + 2 ≤ k := fun k hk => by have := HF.out k hk; have := HWs.out; omega
  have HFN := Lib.hid hFN
  clear hc3 hc0 hc1 hRes3 hFN
  by_cases hok : DiskOkP D
  · have hd : decide (DiskOkP D) = true := decide_eq_true hok
    have HR := Lib.hid (show crashR D ch = crashD D ch from if_pos hok)
    have HOK := Lib.hid hok
    clear hok hD0 hD1 hr0 hr1 hrf0 hrf1
    go_wp2_with fail
    have hSr : ∀ b, S b → b < w3.heap.size ∧ b ≠ B ∧ b ≠ M ∧ b ∉ F1 := fun b hb => by
      have h0 := HS.out b hb
      have h1 := HC3.out.size
      have h2 := HC1.out.size
      have h3 := HW.out.size
      refine ⟨by omega, by omega, by omega, fun hm => ?_⟩
      have := HF.out b (List.mem_append_left _ hm); omega
    refine (crash_calls B M _ _ _ D ch F1 F2 S _ _ w3 HD3.out HF13.out HF23.out hnd (fun hm => by have := HFB.out _ hm; omega) (fun hm => by have := HFB.out _ hm; omega) (HCh.out.up HS.out HC3.out) hSr HOK.out).mono ?_
    rintro e w4 ⟨rfl, F', hB4, ho4, hn4, hF4, hc4⟩
    have hl3 := lt_block HRes3.out
    have hs1 := HC1.out.size
    have hws := HWs.out
    have hnB : N + 1 ≠ B := by omega
    have hnM : N + 1 ≠ M := by omega
    have hnF : N + 1 ∉ F1 ++ F2 := fun hm => by have := HFN.out _ hm; omega
    have hRes4 := (hc4.block (N + 1) hl3 (by simp [hnB, hnM]; exact fun hm => hnF (List.mem_append_left _ hm))).trans HRes3.out
    have hr0 : w4.cell? ⟨N + 1, 0, none⟩ = some (.slice none 0 0) := cell_block hRes4 0
    have hr1 : w4.cell? ⟨N + 1, 1, none⟩ = some (.slice none 0 0) := cell_block hRes4 1
    have hrf0 := free_block hRes4 0
    have hrf1 := free_block hRes4 1
    have hB0 : w4.cell? ⟨B, 2, none⟩ = some (.slice x1 D.safe.length d1) := cell_block hB4 2
    have hB1 : w4.cell? ⟨B, 3, none⟩ = some (.slice none 0 0) := cell_block hB4 3
    have HO4 := Lib.hid ho4
    have HF4 := Lib.hid hF4
    have HC4 := Lib.hid (HC3.out.step hc4 (fun k hk => by
      have hN := HN.out
      have hk' : k = B ∨ k = M ∨ k ∈ F1 := by simpa using hk
      rcases hk' with rfl | rfl | hk
      · right; omega
      · right; omega
      · have := HFN.out k (List.mem_append_left _ hk); right; omega))
    have hRl := lt_block hRes4
    clear ho4 hF4 hc4 hRes4 hB4
    go_wp2
    have hn1 : N + 1 ∉ F' := fun hm => hnF (List.mem_append.2 (HF4.out _ hm))
    have hN := HN.out
    refine bodyPost_ret (v := .tuple #[.agg #[.slice x1 D.safe.length d1, .slice none 0 0], .bool true]) (by simp [results, Try.results25, go_sem, hr0, hr1]) rfl
      ⟨_, _, F', by rw [hd], ?_, hn4, fun k hk => ?_, (HC4.out.setCell (.inr (by simp; omega)) _).setCell (.inr (by simp; omega)) _⟩
    · rw [HR.out]
      exact ⟨F', [], by simp, (HO4.out.far (p := ⟨N + 1, 0, none⟩) hn1 _).far (p := ⟨N + 1, 1, none⟩) hn1 _, SlOwn.nil _ _ _ _⟩
    · have := HFN.out k (List.mem_append.2 (HF4.out k hk)); omega
  · have hd : decide (DiskOkP D) = false := decide_eq_false hok
    have HR := Lib.hid (show crashR D ch = D from if_neg hok)
    have hRl := lt_block HRes3.out
    have hs1 := HC1.out.size
    have hws := HWs.out
    clear hok
    go_wp2
    have hN := HN.out
    have hn1 : N + 1 ∉ F1 := fun hm => by have := HFN.out _ (List.mem_append_left _ hm); omega
    have hn2 : N + 1 ∉ F2 := fun hm => by have := HFN.out _ (List.mem_append_right _ hm); omega
    refine bodyPost_ret (v := .tuple #[.agg #[.slice x1 D.safe.length d1, .slice x2 D.pend.length d2], .bool false]) (by simp [results, Try.results25, go_sem, hr0, hr1]) rfl
      ⟨_, _, F1 ++ F2, by rw [hd], ?_, hnd, fun k hk => ?_, (HC3.out.setCell (.inr (by simp; omega)) _).setCell (.inr (by simp; omega)) _⟩
    · rw [HR.out]
      exact ⟨F1, F2, rfl, (HF13.out.far (p := ⟨N + 1, 0, none⟩) hn1 _).far (p := ⟨N + 1, 1, none⟩) hn1 _, (HF23.out.far (p := ⟨N + 1, 0, none⟩) hn2 _).far (p := ⟨N + 1, 1, none⟩) hn2 _⟩
    · have := HFN.out k hk; omega
end Go.Proofs.Ytjolhaefnloaoaa
