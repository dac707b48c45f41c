/- A disk's clone. -/
import Derived.Test.YtjolhaefnloaoaaD2
namespace Go.Proofs.Ytjolhaefnloaoaa
open Go.RowKit Sh

set_option maxRecDepth 100000 in
set_option maxHeartbeats 2000000 in
theorem impl_clone_calls (v1 v2 : Value) (D : DiskD) (S : Nat → Prop) (w : World) (h : DiskRd S w v1 v2 D) (hS : ∀ b, S b → b < w.heap.size) (hx : szD D ≤ 1048576) :
    Calls Try.prog 47 #[.agg #[v1, v2]] w fun e w' => ∃ u1 u2 F1 F2, e = .returned (.agg #[u1, u2]) ∧ SlOwn bytesSh 22 F1 w' u1 D.safe ∧ SlOwn pendSh 121 F2 w' u2 D.pend ∧ (F1 ++ F2).Nodup ∧ (∀ b ∈ F1 ++ F2, w.heap.size ≤ b) ∧ Chg [] w w' := by
  obtain ⟨h1, h2⟩ := h
  obtain ⟨a1, c1, rfl, _, _⟩ := h1.form
  obtain ⟨a2, c2, rfl, _, _⟩ := h2.form
  have hb1 := h1.bound
  have hb2 := h2.bound
  obtain ⟨hl1, HD1⟩ := sizes_safe hx
  obtain ⟨hl2, HD2⟩ := sizes_pend hx
  have HD1 := Lib.hid HD1
  have HD2 := Lib.hid HD2
  clear hx
  obtain ⟨N, hN⟩ : ∃ N, N = w.heap.size := ⟨_, rfl⟩
  obtain ⟨W0, hW0⟩ : ∃ W0 : World, W0 = (((w.alloc (.cells #[.slice a1 D.safe.length c1, .slice a2 D.pend.length c2] 26)).alloc (.cells #[.slice none 0 0, .slice none 0 0] 26)).alloc (.cells #[.slice none 0 0, .slice none 0 0] 26)) := ⟨_, rfl⟩
  have HWs := Lib.hid (show W0.heap.size = N + 3 by rw [hW0, hN]; simp)
  have HX0 := Lib.hid (show W0.heap[N + 1 + 1]? = some (.cells #[.slice none 0 0, .slice none 0 0] 26 (0, 0)) by rw [hW0, hN]; exact alloc_at (by simp))
  have HBox := Lib.hid (show W0.heap[N]? = some (.cells #[.slice a1 D.safe.length c1, .slice a2 D.pend.length c2] 26 (0, 0)) by
    rw [hW0, hN]; exact alloc_past (alloc_past (alloc_at rfl)))
  have HRes := Lib.hid (show W0.heap[N + 1]? = some (.cells #[.slice none 0 0, .slice none 0 0] 26 (0, 0)) by
    rw [hW0, hN]; exact alloc_past (alloc_at (by simp)))
  have HW := Lib.hid (show Chg [] w W0 by rw [hW0]; exact (((Chg.refl [] w).alloc _).alloc _).alloc _)
  go_enter Try.func47, Try.ntmps47
  go_wp2
  rw [← hW0, ← hN]
  clear hW0
  have HNS := Lib.hid (show ∀ b, S b → b < N from fun b hb => hN ▸ hS b hb)
  clear hS
  have HN := Lib.hid hN
  clear hN
  have HH1 := Lib.hid h1
  have HH2 := Lib.hid h2
  clear h1 h2
  go_loopw [11] (fun i wr => ∃ (j : Nat) (u1 : Value) (F : List Nat), j ≤ D.safe.length ∧ i = .int .i64 j ∧ wr.heap[N + 1 + 1]? = some (.cells #[u1, .slice none 0 0] 26 (0, 0)) ∧ SlOwn bytesSh 22 F wr u1 (D.safe.take j) ∧ F.Nodup ∧ (∀ b ∈ F, N + 3 ≤ b) ∧ Chg [N + 1 + 1] W0 wr) (fun i _ => D.safe.length - (intOf i).toNat)
  case atStart => exact ⟨0, _, [], by omega, rfl, HX0.out, SlOwn.nil _ _ _ _, by simp, by simp, Chg.refl _ _⟩
  case round =>
    obtain ⟨j, u1, F, hj, rfl, hX, ho, hnd, hfr, hchg⟩ := hrel
    obtain ⟨au, cu, rfl, _, _⟩ := ho.rd.form
    have hTl : (D.safe.take j).length = j := by simp; omega
    rw [hTl] at ho hX
    clear hTl
    have hNw := HWs.out
    have hbx := hchg.cell (b := N) (o := 0) (by omega) (by simp; omega)
    have hbox0 : wr.cell? ⟨N, 0, none⟩ = some (.slice a1 D.safe.length c1) := hbx.1.trans (cell_block HBox.out 0)
    have hx0 : wr.cell? ⟨N + 1 + 1, 0, none⟩ = some (.slice au j cu) := cell_block hX 0
    have hw1 : Chg [] w wr := HW.out.step hchg (fun b hb => .inr (by have := HN.out; simp at hb; omega))
    clear hbx
    by_cases hlt : j < D.safe.length
    · obtain ⟨b, o, u, rfl, hSb, hbl, hcell, hr⟩ := (HH1.out.up (fun b hb => by have := HNS.out b hb; have := HN.out; omega) hw1).cellS j hlt
      obtain ⟨au2, cu2, rfl, _, _⟩ := hr.form
      have hnew := HD1.out j hlt
      have hbW : b < W0.heap.size := by have := HNS.out b hSb; omega
      have hbN : b < N := HNS.out b hSb
      have hX0lt := lt_block hX
      have HX := Lib.hid hX
      have HO := Lib.hid ho
      have HC := Lib.hid hchg
      have HF := Lib.hid hfr
      have HW1 := Lib.hid hw1
      have HR := Lib.hid hr
      have HSr := Lib.hid (show ∀ k, S k → k < wr.heap.size from fun k hk => by have := HNS.out k hk; have := hchg.size; omega)
      clear hX ho hchg hfr hw1 hr
      go_wp2
      refine wp_region_sched (fun w' => w'.cell? ⟨N + 1 + 1, 0, none⟩ = some (.slice au j cu) ∧ w'.cell? ⟨N, 0, none⟩ = some (.slice (some ⟨b, o, none⟩) D.safe.length c1) ∧ w'.cell? ⟨b, o + j, none⟩ = some (.slice au2 D.safe[j].length cu2))
        [5, 7] [.pure 0, .st 1, .pure 2, .ac 3, .ac 4, .ac 5, .pure 6, .ac 7] (by kernel_rfl) (by kernel_rfl) ⟨hx0, hbox0, hcell⟩ ?_
      have HS0 : (fun w' : World => w'.cell? ⟨N + 1 + 1, 0, none⟩ = some (.slice au j cu) ∧ w'.cell? ⟨N, 0, none⟩ = some (.slice (some ⟨b, o, none⟩) D.safe.length c1) ∧ w'.cell? ⟨b, o + j, none⟩ = some (.slice au2 D.safe[j].length cu2)) wr.drew := ⟨hx0, hbox0, hcell⟩
      (iterate 3 (first | (refine sched_pure (by rfl) ?_; apply Exists.intro; apply Exists.intro; refine ⟨fun w' hS' Kp hK => ?_, ?_⟩; (· (try dsimp only at hS'); go_simp; (repeat (go_ite <;> go_prune <;> (try go_simp))); (all_goals first | exact hK | (refine valUpon_ok ?_; exact hK)))) | (refine sched_st (by rfl) (by assumption) ?_; apply Exists.intro; apply Exists.intro; refine ⟨fun w' hS' Kp hK => ?_, ?_⟩; (· (try dsimp only at hS'); go_simp; (repeat (go_ite <;> go_prune <;> (try go_simp))); (all_goals first | exact hK | (refine valUpon_ok ?_; exact hK))))))
      (refine sched_ac (by rfl) ?_)
      go_wp2_with fail
      refine (clone_calls _ _ S _ (HR.out.drew) HSr.out (by omega)).mono ?_
      rintro e w1 ⟨v', G, rfl, hG, hGn, hGf, hc1⟩
      obtain ⟨ag, cg, rfl, _, _⟩ := hG.rd.form
      have hq1 := hc1.cell (b := N + 1 + 1) (o := 0) hX0lt (by simp)
      have hq2 := hc1.cell (b := N) (o := 0) (by have := HC.out.size; simp; omega) (by simp)
      have hq3 := hc1.cell (b := b) (o := o + j) (by simpa using hbl) (by simp)
      have hs1 := hc1.size
      have HS1 := Lib.hid (show w1.cell? ⟨N + 1 + 1, 0, none⟩ = some (.slice au j cu) ∧ w1.cell? ⟨N, 0, none⟩ = some (.slice (some ⟨b, o, none⟩) D.safe.length c1) ∧ w1.cell? ⟨b, o + j, none⟩ = some (.slice au2 D.safe[j].length cu2) from
        ⟨hq1.1.trans hx0, hq2.1.trans hbox0, hq3.1.trans hcell⟩)
      have hfz1 := hq1.2
      have HG := Lib.hid hG
      have HGf := Lib.hid hGf
      have HC1 := Lib.hid hc1
      clear hq1 hq2 hq3 hG hGf hc1
      go_wp2_with fail
      (unfold KeepPost; refine ⟨fun _ => HS1.out, ?_⟩)
      (refine sched_ac (by rfl) ?_)
      go_wp2_with fail
      have HS2 := Lib.hid (show (w1.alloc (.cells #[.slice ag D.safe[j].length cg] 22)).cell? ⟨N + 1 + 1, 0, none⟩ = some (.slice au j cu) ∧ (w1.alloc (.cells #[.slice ag D.safe[j].length cg] 22)).cell? ⟨N, 0, none⟩ = some (.slice (some ⟨b, o, none⟩) D.safe.length c1) ∧
        (w1.alloc (.cells #[.slice ag D.safe[j].length cg] 22)).cell? ⟨b, o + j, none⟩ = some (.slice au2 D.safe[j].length cu2) by have h0 := HS1.out; simp [World.cell?_alloc_some, h0])
      (unfold KeepPost; refine ⟨fun _ => HS2.out, ?_⟩)
      (refine sched_ac (by rfl) ?_)
      have HO1 := Lib.hid (HO.out.drewN 1 |>.up HC1.out)
      have HD := Lib.hid (show ∀ k ∈ G, k ∉ F from fun k hk hm => by have := HGf.out k hk; have := HO.out.lt k hm; simp at *; omega)
      refine wpList_own1 rfl _ _ 23 rfl 22 22 #[.slice ag D.safe[j].length cg] D.safe[j] (.slice au j cu) rfl rfl HO1.out hnd ⟨_, rfl, HG.out⟩ hGn HD.out (.slice none 0 0) 24 Try.underlying23 info_bytes rfl (by simp; omega) (by simp; omega) ?_
      intro v2 w2 F2 ho2 hn2 hf2 hc2
      rw [← take_snoc D.safe j hlt] at ho2
      obtain ⟨av2, cv2, rfl, _, _⟩ := ho2.rd.form
      have hTl : (D.safe.take (j + 1)).length = j + 1 := by simp; omega
      rw [hTl] at ho2 ⊢
      clear hTl
      have hXF : N + 1 + 1 ∉ F := fun hm => by have := HF.out _ hm; omega
      have hX1 := alloc_past (o := .cells #[.slice ag D.safe[j].length cg] 22) ((HC1.out.block (N + 1 + 1) hX0lt (by simp)).trans HX.out)
      have hX2 := (hc2.block _ (lt_block hX1) hXF).trans hX1
      have hx2 : w2.cell? ⟨N + 1 + 1, 0, none⟩ = some (.slice au j cu) := cell_block hX2 0
      have hz2 := free_block hX2 0
      have HX2 := Lib.hid hX2
      have HO2 := Lib.hid ho2
      have HF2 := Lib.hid hf2
      have HC2 := Lib.hid hc2
      clear hX1 hX2 ho2 hf2 hc2
      go_wp2_with fail
      (unfold KeepPost; refine ⟨fun h => absurd h (by decide), ?_⟩)
      (first | (refine sched_pure (by rfl) ?_; apply Exists.intro; apply Exists.intro; refine ⟨fun w' hS' Kp hK => ?_, ?_⟩; (· (try dsimp only at hS'); go_simp; (repeat (go_ite <;> go_prune <;> (try go_simp))); (all_goals first | exact hK | (refine valUpon_ok ?_; exact hK)))) | (refine sched_st (by rfl) (by assumption) ?_; apply Exists.intro; apply Exists.intro; refine ⟨fun w' hS' Kp hK => ?_, ?_⟩; (· (try dsimp only at hS'); go_simp; (repeat (go_ite <;> go_prune <;> (try go_simp))); (all_goals first | exact hK | (refine valUpon_ok ?_; exact hK)))))
      (refine sched_ac (by rfl) ?_)
      go_wp2_with fail
      (unfold KeepPost; refine ⟨fun h => absurd h (by decide), ?_⟩)
      (refine NoPanic.normal ?_)
      go_wp2
      go_roundw
      case rel =>
        have hXF2 : N + 1 + 1 ∉ F2 := fun hm => by
          rcases HF2.out _ hm with h | h | h
          · exact hXF h
          · have := HGf.out _ h; simp at this; omega
          · have := HC1.out.size; simp at this; omega
        refine ⟨j + 1, _, F2, by omega, by go_num, block_set HX2.out 0 _, ?_, hn2, fun k hk => ?_, ?_⟩
        · exact HO2.out.far hXF2 _
        · rcases HF2.out k hk with h | h | h
          · exact HF.out k h
          · have := HGf.out k h; have := HC.out.size; have := HWs.out; simp at *; omega
          · have := HC1.out.size; have := HC.out.size; have := HWs.out; simp at *; omega
        · exact (((HC.out.drew.trans (HC1.out.mono (by simp))).alloc _).step HC2.out (fun k hk => .inr (by have := HF.out k hk; have := HWs.out; omega))).setCell (.inl (by simp)) _
      case measure => simp [intOf]; omega
    · obtain rfl : j = D.safe.length := by omega
      obtain ⟨W1, hW1⟩ : ∃ W1, W1 = wr := ⟨_, rfl⟩
      subst hW1
      rw [List.take_length] at ho
      have hX1lt := lt_block hX
      have hHo := Lib.hid ho
      have HC := Lib.hid hchg
      have HF := Lib.hid hfr
      have HW1 := Lib.hid hw1
      have HX := Lib.hid hX
      have hbox1 : W1.cell? ⟨N, 1, none⟩ = some (.slice a2 D.pend.length c2) := (HC.out.cell (b := N) (o := 1) (by omega) (by simp; omega)).1.trans (cell_block HBox.out 1)
      clear hX ho hchg hfr hw1 hlt
      go_wp2
      go_loopw [26] (fun i wr => ∃ (q : Nat) (u2 : Value) (F2 : List Nat), q ≤ D.pend.length ∧ i = .int .i64 q ∧ wr.heap[N + 1 + 1]? = some (.cells #[.slice au D.safe.length cu, u2] 26 (0, 0)) ∧ SlOwn pendSh 121 F2 wr u2 (D.pend.take q) ∧ F2.Nodup ∧ (∀ b ∈ F2, W1.heap.size ≤ b) ∧ Chg [N + 1 + 1] W1 wr) (fun i _ => D.pend.length - (intOf i).toNat)
      case atStart => exact ⟨0, _, [], by omega, rfl, HX.out, SlOwn.nil _ _ _ _, by simp, by simp, Chg.refl _ _⟩
      case round =>
        obtain ⟨q, u2, F2, hq, rfl, hX, ho, hnd2, hfr, hchg⟩ := hrel
        obtain ⟨ap, cp, rfl, _, _⟩ := ho.rd.form
        have hTl : (D.pend.take q).length = q := by simp; omega
        rw [hTl] at ho hX
        clear hTl
        have hNw := HWs.out
        have hsz0 := HC.out.size
        have hbx := hchg.cell (b := N) (o := 1) (by omega) (by simp; omega)
        have hbx2 := HC.out.cell (b := N) (o := 1) (by omega) (by simp; omega)
        have hbox0 : wr.cell? ⟨N, 1, none⟩ = some (.slice a2 D.pend.length c2) := hbx.1.trans (hbx2.1.trans (cell_block HBox.out 1))
        have hx0 : wr.cell? ⟨N + 1 + 1, 1, none⟩ = some (.slice ap q cp) := cell_block hX 1
        have hw1 : Chg [] w wr := HW1.out.step hchg (fun b hb => .inr (by have := HN.out; simp at hb; omega))
        clear hbx hbx2
        by_cases hlt : q < D.pend.length
        · obtain ⟨b, o, u, rfl, hSb, hbl, hcell, hcell2, hr⟩ := pend_cell (HH2.out.up (fun b hb => by have := HNS.out b hb; have := HN.out; omega) hw1) q hlt
          obtain ⟨au2, cu2, rfl, _, _⟩ := hr.form
          have hnew := HD2.out q hlt
          have hbN : b < N := HNS.out b hSb
          have hX0lt := lt_block hX
          have HXq := Lib.hid hX
          have HOq := Lib.hid ho
          have HCq := Lib.hid hchg
          have HFq := Lib.hid hfr
          obtain ⟨WA, hWA⟩ : ∃ WA : World, WA = wr.alloc (.cells #[.int .i64 D.pend[q].pos, .slice au2 D.pend[q].data.length cu2] 121) := ⟨_, rfl⟩
          have HWA := Lib.hid (show Chg [] wr WA by rw [hWA]; exact (Chg.refl _ _).alloc _)
          have hM := alloc_at (o := .cells #[.int .i64 D.pend[q].pos, .slice au2 D.pend[q].data.length cu2] 121) (w := wr) rfl
          rw [← hWA] at hM
          have hm0 : WA.cell? ⟨wr.heap.size, 0, none⟩ = some (.int .i64 D.pend[q].pos) := cell_block hM 0
          have hm1 : WA.cell? ⟨wr.heap.size, 1, none⟩ = some (.slice au2 D.pend[q].data.length cu2) := cell_block hM 1
          have hmlt := lt_block hM
          have hxa : WA.cell? ⟨N + 1 + 1, 1, none⟩ = some (.slice ap q cp) := (HWA.out.cell hX0lt (by simp)).1.trans hx0
          have hXA := (HWA.out.block _ hX0lt (by simp)).trans hX
          have HXA := Lib.hid hXA
          have HR := Lib.hid (hr.up (fun k hk => by have := HNS.out k hk; have := hchg.size; omega) HWA.out)
          have HSr := Lib.hid (show ∀ k, S k → k < WA.heap.size from fun k hk => by have := HNS.out k hk; have := hchg.size; have := HWA.out.size; omega)
          clear hX ho hchg hfr hw1 hr hM hXA
          go_wp2
          rw [← hWA]
          clear hWA
          refine wp_region_sched (fun w' => w'.cell? ⟨N + 1 + 1, 1, none⟩ = some (.slice ap q cp) ∧ w'.cell? ⟨wr.heap.size, 0, none⟩ = some (.int .i64 D.pend[q].pos) ∧ w'.cell? ⟨wr.heap.size, 1, none⟩ = some (.slice au2 D.pend[q].data.length cu2))
            [9, 11] [.pure 0, .st 1, .pure 2, .st 3, .pure 4, .st 5, .ac 6, .pure 7, .ac 8, .ac 9, .pure 10, .ac 11] (by kernel_rfl) (by kernel_rfl) ⟨hxa, hm0, hm1⟩ ?_
          have HS0 : (fun w' : World => w'.cell? ⟨N + 1 + 1, 1, none⟩ = some (.slice ap q cp) ∧ w'.cell? ⟨wr.heap.size, 0, none⟩ = some (.int .i64 D.pend[q].pos) ∧ w'.cell? ⟨wr.heap.size, 1, none⟩ = some (.slice au2 D.pend[q].data.length cu2)) WA.drew := ⟨hxa, hm0, hm1⟩
          (iterate 6 (first | (refine sched_pure (by rfl) ?_; apply Exists.intro; apply Exists.intro; refine ⟨fun w' hS' Kp hK => ?_, ?_⟩; (· (try dsimp only at hS'); go_simp; (repeat (go_ite <;> go_prune <;> (try go_simp))); (all_goals first | exact hK | (refine valUpon_ok ?_; exact hK)))) | (refine sched_st (by rfl) (by assumption) ?_; apply Exists.intro; apply Exists.intro; refine ⟨fun w' hS' Kp hK => ?_, ?_⟩; (· (try dsimp only at hS'); go_simp; (repeat (go_ite <;> go_prune <;> (try go_simp))); (all_goals first | exact hK | (refine valUpon_ok ?_; exact hK))))))
          (refine sched_ac (by rfl) ?_)
          go_wp2_with fail
          refine (clone_calls _ _ S _ (HR.out.drew) HSr.out (by omega)).mono ?_
          rintro e w1 ⟨v', G, rfl, hG, hGn, hGf, hc1⟩
          obtain ⟨ag, cg, rfl, _, _⟩ := hG.rd.form
          have hXAlt := lt_block HXA.out
          have hq1 := hc1.cell (b := N + 1 + 1) (o := 1) hXAlt (by simp)
          have hq3 := hc1.cell (b := wr.heap.size) (o := 0) hmlt (by simp)
          have hq4 := hc1.cell (b := wr.heap.size) (o := 1) hmlt (by simp)
          have hs1 := hc1.size
          have HS1 := Lib.hid (show w1.cell? ⟨N + 1 + 1, 1, none⟩ = some (.slice ap q cp) ∧ w1.cell? ⟨wr.heap.size, 0, none⟩ = some (.int .i64 D.pend[q].pos) ∧ w1.cell? ⟨wr.heap.size, 1, none⟩ = some (.slice au2 D.pend[q].data.length cu2) from
            ⟨hq1.1.trans hxa, hq3.1.trans hm0, hq4.1.trans hm1⟩)
          have HG := Lib.hid hG
          have HGf := Lib.hid hGf
          have HC1 := Lib.hid hc1
          clear hq1 hq3 hq4 hG hGf hc1
          go_wp2_with fail
          (unfold KeepPost; refine ⟨fun _ => HS1.out, ?_⟩)
          (first | (refine sched_pure (by rfl) ?_; apply Exists.intro; apply Exists.intro; refine ⟨fun w' hS' Kp hK => ?_, ?_⟩; (· (try dsimp only at hS'); go_simp; (repeat (go_ite <;> go_prune <;> (try go_simp))); (all_goals first | exact hK | (refine valUpon_ok ?_; exact hK)))) | (refine sched_st (by rfl) (by assumption) ?_; apply Exists.intro; apply Exists.intro; refine ⟨fun w' hS' Kp hK => ?_, ?_⟩; (· (try dsimp only at hS'); go_simp; (repeat (go_ite <;> go_prune <;> (try go_simp))); (all_goals first | exact hK | (refine valUpon_ok ?_; exact hK)))))
          (refine sched_ac (by rfl) ?_)
          go_wp2_with fail
          have HS2 := Lib.hid (show (w1.alloc (.cells #[.int .i64 D.pend[q].pos, .slice ag D.pend[q].data.length cg] 121)).cell? ⟨N + 1 + 1, 1, none⟩ = some (.slice ap q cp) ∧ (w1.alloc (.cells #[.int .i64 D.pend[q].pos, .slice ag D.pend[q].data.length cg] 121)).cell? ⟨wr.heap.size, 0, none⟩ = some (.int .i64 D.pend[q].pos) ∧ (w1.alloc (.cells #[.int .i64 D.pend[q].pos, .slice ag D.pend[q].data.length cg] 121)).cell? ⟨wr.heap.size, 1, none⟩ = some (.slice au2 D.pend[q].data.length cu2) by have h0 := HS1.out; simp [World.cell?_alloc_some, h0])
          (unfold KeepPost; refine ⟨fun _ => HS2.out, ?_⟩)
          (refine sched_ac (by rfl) ?_)
          have HO1 := Lib.hid ((HOq.out.up HWA.out).drewN 1 |>.up HC1.out)
          have HD := Lib.hid (show ∀ k ∈ G, k ∉ F2 from fun k hk hm => by have := HGf.out k hk; have := HOq.out.lt k hm; have := HWA.out.size; simp at *; omega)
          refine wpList_own1 rfl _ _ 24 rfl 121 121 #[.int .i64 D.pend[q].pos, .slice ag D.pend[q].data.length cg] D.pend[q] (.slice ap q cp) rfl rfl HO1.out hnd2 ⟨[_], [_], [], G, rfl, rfl, ⟨rfl, rfl⟩, _, rfl, HG.out⟩ hGn HD.out (.agg #[.int .i64 0, .slice none 0 0]) 32 Try.underlying24 info_pend rfl (by simp; omega) (by simp; omega) ?_
          intro v2 w2 F3 ho2 hn2 hf2 hc2
          rw [← take_snoc D.pend q hlt] at ho2
          obtain ⟨av2, cv2, rfl, _, _⟩ := ho2.rd.form
          have hTl : (D.pend.take (q + 1)).length = q + 1 := by simp; omega
          rw [hTl] at ho2 ⊢
          clear hTl
          have hXF : N + 1 + 1 ∉ F2 := fun hm => by have := HFq.out _ hm; omega
          have hX1 := alloc_past (o := .cells #[.int .i64 D.pend[q].pos, .slice ag D.pend[q].data.length cg] 121) ((HC1.out.block (N + 1 + 1) hXAlt (by simp)).trans HXA.out)
          have hX2 := (hc2.block _ (lt_block hX1) hXF).trans hX1
          have hx2 : w2.cell? ⟨N + 1 + 1, 1, none⟩ = some (.slice ap q cp) := cell_block hX2 1
          have hz2 := free_block hX2 1
          have HX2 := Lib.hid hX2
          have HO2 := Lib.hid ho2
          have HF2 := Lib.hid hf2
          have HC2 := Lib.hid hc2
          clear hX1 hX2 ho2 hf2 hc2
          go_wp2_with fail
          (unfold KeepPost; refine ⟨fun h => absurd h (by decide), ?_⟩)
          (first | (refine sched_pure (by rfl) ?_; apply Exists.intro; apply Exists.intro; refine ⟨fun w' hS' Kp hK => ?_, ?_⟩; (· (try dsimp only at hS'); go_simp; (repeat (go_ite <;> go_prune <;> (try go_simp))); (all_goals first | exact hK | (refine valUpon_ok ?_; exact hK)))) | (refine sched_st (by rfl) (by assumption) ?_; apply Exists.intro; apply Exists.intro; refine ⟨fun w' hS' Kp hK => ?_, ?_⟩; (· (try dsimp only at hS'); go_simp; (repeat (go_ite <;> go_prune <;> (try go_simp))); (all_goals first | exact hK | (refine valUpon_ok ?_; exact hK)))))
          (refine sched_ac (by rfl) ?_)
          go_wp2_with fail
          (unfold KeepPost; refine ⟨fun h => absurd h (by decide), ?_⟩)
          (refine NoPanic.normal ?_)
          go_wp2
          go_roundw
          case rel =>
            have hXF2 : N + 1 + 1 ∉ F3 := fun hm => by
              rcases HF2.out _ hm with h | h | h
              · exact hXF h
              · have := HGf.out _ h; have := HWA.out.size; simp at *; omega
              · have := HC1.out.size; have := HWA.out.size; simp at *; omega
            refine ⟨q + 1, _, F3, by omega, by go_num, block_set HX2.out 1 _, ?_, hn2, fun k hk => ?_, ?_⟩
            · exact HO2.out.far hXF2 _
            · rcases HF2.out k hk with h | h | h
              · exact HFq.out k h
              · have := HGf.out k h; have := HCq.out.size; have := HWA.out.size; simp at *; omega
              · have := HC1.out.size; have := HCq.out.size; have := HWA.out.size; simp at *; omega
            · exact ((((HCq.out.trans (HWA.out.mono (by simp))).drew.trans (HC1.out.mono (by simp))).alloc _).step HC2.out (fun k hk => .inr (HFq.out k hk))).setCell (.inl (by simp)) _
          case measure => simp [intOf]; omega
        · obtain rfl : q = D.pend.length := by omega
          rw [List.take_length] at ho
          have hx00 : wr.cell? ⟨N + 1 + 1, 0, none⟩ = some (.slice au D.safe.length cu) := cell_block hX 0
          have hRes := (hchg.block (N + 1) (by omega) (by simp)).trans ((HC.out.block (N + 1) (by omega) (by simp)).trans HRes.out)
          have hr0 : wr.cell? ⟨N + 1, 0, none⟩ = some (.slice none 0 0) := cell_block hRes 0
          have hr1 : wr.cell? ⟨N + 1, 1, none⟩ = some (.slice none 0 0) := cell_block hRes 1
          have hf0 := free_block hRes 0
          have hf1 := free_block hRes 1
          have HO2 := Lib.hid ho
          have HC2 := Lib.hid hchg
          have HF2 := Lib.hid hfr
          have HW2 := Lib.hid hw1
          clear ho hchg hfr hw1 hX hRes
          go_wp2
          have hnf : N + 1 ∉ F := fun hm => by have := HF.out _ hm; omega
          have hnf2 : N + 1 ∉ F2 := fun hm => by have := HF2.out _ hm; omega
          have hd : ∀ a ∈ F, ∀ b ∈ F2, a ≠ b := fun a ha b hb hab => by subst hab; have := hHo.out.lt a ha; have := HF2.out a hb; omega
          exact bodyPost_ret (v := .agg #[.slice au D.safe.length cu, .slice ap D.pend.length cp]) (by simp [results, Try.results47, go_sem, hr0, hr1]) rfl
            ⟨_, _, F, F2, rfl, ((hHo.out.mono (HC2.out.same fun k hk => ⟨hHo.out.lt k hk, fun hm => by have := HF.out k hk; simp at hm; omega⟩)).far hnf _).far hnf _, (HO2.out.far hnf2 _).far hnf2 _, List.nodup_append.2 ⟨hnd, hnd2, hd⟩,
              fun k hk => by
                have := HN.out
                rcases List.mem_append.1 hk with h | h
                · have := HF.out k h; omega
                · have := HF2.out k h; omega,
              (HW2.out.setCell (.inr (by have := HN.out; simp; omega)) _).setCell (.inr (by have := HN.out; simp; omega)) _⟩
end Go.Proofs.Ytjolhaefnloaoaa
