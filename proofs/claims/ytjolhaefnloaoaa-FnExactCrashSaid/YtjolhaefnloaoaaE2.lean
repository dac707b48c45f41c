/- The reference's Crash. -/
import Derived.Test.YtjolhaefnloaoaaE1
namespace Go.Proofs.Ytjolhaefnloaoaa
open Go.RowKit Sh

theorem info_int : (Try.prog.info? 3).map (fun i => (i.zero, i.size, i.bytes)) = some (some (.int .i64 0), 1, 8) := by kernel_rfl

/-- How many writes are pending to each of n sectors. -/
def cntP (n : Nat) (ps : List PendD) : List Int := (List.range n).map fun a => ((idxOf ps (a : Nat)).length : Int)
theorem cntP_length (n : Nat) (ps : List PendD) : (cntP n ps).length = n := by simp [cntP]
theorem cntP_get (n : Nat) (ps : List PendD) (a : Nat) (h : a < (cntP n ps).length) : (cntP n ps)[a] = ((idxOf ps (a : Nat)).length : Int) := by simp [cntP]
theorem cntP_nil (n : Nat) : cntP n [] = List.replicate n 0 := by
  apply List.ext_getElem
  · simp [cntP]
  · intro i h1 h2; simp [cntP, idxOf]
theorem cntP_snoc (n : Nat) (ps : List PendD) (p : PendD) (h0 : 0 ≤ p.pos) : cntP n (ps ++ [p]) = (cntP n ps).set p.pos.toNat (((idxOf ps p.pos).length : Int) + 1) := by
  apply List.ext_getElem
  · simp [cntP]
  · intro i hi1 hi2
    have hi : i < n := by simpa [cntP] using hi1
    rw [cntP_get, idxOf_snoc, List.getElem_set]
    by_cases he : p.pos.toNat = i
    · have hp : p.pos = (i : Int) := by omega
      rw [if_pos he, if_pos hp, hp]; simp
    · have hp : ¬ p.pos = (i : Int) := by omega
      rw [if_neg he, if_neg hp, cntP_get]

theorem foldl_range_succ {α : Type} (f : α → Nat → α) (s : α) (p : Nat) : (List.range (p + 1)).foldl f s = f ((List.range p).foldl f s) p := by rw [List.range_succ, List.foldl_append]; rfl
theorem crash_fst_le (ps : List PendD) (ch : List UInt8) (p : Nat) (s : Nat × List (List UInt8)) : ((List.range p).foldl (crashStep ps ch) s).1 ≤ s.1 + p := by
  induction p with
  | zero => simp
  | succ p ih =>
    rw [foldl_range_succ]
    unfold crashStep at ih ⊢
    split
    · omega
    · simp only; omega

set_option maxRecDepth 100000 in
set_option maxHeartbeats 4000000 in
theorem spec_Crash_calls (v1 v2 vc : Value) (D : DiskD) (ch : List UInt8) (S : Nat → Prop) (w : World) (h : DiskRd S w v1 v2 D) (hch : SlRd byte S w vc ch) (hS : ∀ b, S b → b < w.heap.size) (hx : szD D ≤ 1048576) :
    Calls Try.prog 23 #[.agg #[v1, v2], vc] w fun e w' => ∃ u1 u2, e = .returned (.tuple #[.agg #[u1, u2], .bool (decide (DiskOkP D))]) ∧ DiskRd (fun b => b < w'.heap.size) w' u1 u2 (crashR D ch) ∧ Chg [] w w' := by
  have hh := h
  obtain ⟨h1, h2⟩ := h
  obtain ⟨a1, c1, rfl, _, _⟩ := h1.form
  obtain ⟨a2, c2, rfl, _, _⟩ := h2.form
  obtain ⟨ac, cc, rfl, _, _⟩ := hch.form
  have hb1 := h1.bound
  have hb2 := h2.bound
  obtain ⟨hl1, HD1⟩ := sizes_safe hx
  obtain ⟨hl2, HD2⟩ := sizes_pend hx
  have HD1 := Lib.hid HD1
  have HD2 := Lib.hid HD2
  have HH := Lib.hid hh
  have HCh := Lib.hid hch
  obtain ⟨N, hN⟩ : ∃ N, N = w.heap.size := ⟨_, rfl⟩
  obtain ⟨W0, hW0⟩ : ∃ W0 : World, W0 = ((w.alloc (.cells #[.slice a1 D.safe.length c1, .slice a2 D.pend.length c2] 26)).alloc (.cells #[.slice none 0 0, .slice none 0 0] 26)) := ⟨_, rfl⟩
  have HWs := Lib.hid (show W0.heap.size = N + 2 by rw [hW0, hN]; simp)
  have HBox := Lib.hid (show W0.heap[N]? = some (.cells #[.slice a1 D.safe.length c1, .slice a2 D.pend.length c2] 26 (0, 0)) by
    rw [hW0, hN]; exact alloc_past (alloc_at rfl))
  have HRes := Lib.hid (show W0.heap[N + 1]? = some (.cells #[.slice none 0 0, .slice none 0 0] 26 (0, 0)) by
    rw [hW0, hN]; exact alloc_at (by simp))
  have HW := Lib.hid (show Chg [] w W0 by rw [hW0]; exact ((Chg.refl [] w).alloc _).alloc _)
  have hbx0 : W0.cell? ⟨N, 0, none⟩ = some (.slice a1 D.safe.length c1) := cell_block HBox.out 0
  have hbx1 : W0.cell? ⟨N, 1, none⟩ = some (.slice a2 D.pend.length c2) := cell_block HBox.out 1
  clear h1 h2 hch hh
  go_enter Try.func23, Try.ntmps23
  go_wp2_with fail
  rw [← hW0, ← hN]
  clear hW0
  have HNS := Lib.hid (show ∀ b, S b → b < N from fun b hb => hN ▸ hS b hb)
  have HN := Lib.hid hN
  have HS := Lib.hid hS
  clear hN hS
  refine (spec_l1Copy_calls _ _ D S W0 ⟨HH.out.1.up HS.out HW.out, HH.out.2.up HS.out HW.out⟩ (fun b hb => by have := HNS.out b hb; have := HWs.out; omega) hx).mono ?_
  rintro e w1 ⟨u1, u2, F1, F2, rfl, ho1, ho2, hnd, hfr, hc1⟩
  obtain ⟨b1, d1, rfl, _, _⟩ := ho1.rd.form
  obtain ⟨b2, d2, rfl, _, _⟩ := ho2.rd.form
  have hs1 := hc1.size
  have hq0 := ((hc1.cell (b := N) (o := 0) (by have := HWs.out; omega) (by simp)).1).trans hbx0
  have hq1 := ((hc1.cell (b := N) (o := 1) (by have := HWs.out; omega) (by simp)).1).trans hbx1
  have hNlt : N < w1.heap.size := by have := HWs.out; omega
  have HO1 := Lib.hid ho1
  have HO2 := Lib.hid ho2
  have HC1 := Lib.hid hc1
  have HF := Lib.hid hfr
  clear ho1 ho2 hc1 hfr hbx0 hbx1
  go_wp2_with fail
  obtain ⟨WX, hWX⟩ : ∃ WX : World, WX = w1.alloc (.cells #[.slice b1 D.safe.length d1, .slice b2 D.pend.length d2] 26) := ⟨_, rfl⟩
  rw [← hWX]
  have HCX := Lib.hid (show Chg [] w WX by rw [hWX]; exact (HW.out.trans HC1.out).alloc _)
  have hX := alloc_at (o := .cells #[.slice b1 D.safe.length d1, .slice b2 D.pend.length d2] 26) (w := w1) rfl
  rw [← hWX] at hX
  have hC1X : Chg [] w1 WX := by rw [hWX]; exact (Chg.refl _ _).alloc _
  have hC0X := HC1.out.trans hC1X
  have hBoxX := (hC0X.block N (by have := HWs.out; omega) (by simp)).trans HBox.out
  have hResX := (hC0X.block (N + 1) (by have := HWs.out; omega) (by simp)).trans HRes.out
  have hO1X := HO1.out.up hC1X
  have HO2X := Lib.hid (HO2.out.up hC1X)
  have hXs : w1.heap.size < WX.heap.size := lt_block hX
  have hF1X : w1.heap.size ∉ F1 := fun hm => absurd (HO1.out.lt _ hm) (by omega)
  generalize w1.heap.size = X at *
  refine (spec_DiskOk_calls _ _ D S WX ⟨HH.out.1.up HS.out HCX.out, HH.out.2.up HS.out HCX.out⟩ (fun b hb => Nat.lt_of_lt_of_le (HS.out b hb) HCX.out.size)).mono ?_
  rintro e w3 ⟨rfl, hc3⟩
  have hX3 := (hc3.block X (by omega) (by simp)).trans hX
  have hBox3 := (hc3.block N (lt_block hBoxX) (by simp)).trans hBoxX
  have hRes3 := (hc3.block (N + 1) (lt_block hResX) (by simp)).trans hResX
  have hO13 := hO1X.up hc3
  have HO23 := Lib.hid (HO2X.out.up hc3)
  have HC3 := Lib.hid (HCX.out.trans hc3)
  have hx30 : w3.cell? ⟨X, 0, none⟩ = some (.slice b1 D.safe.length d1) := cell_block hX3 0
  have hx31 : w3.cell? ⟨X, 1, none⟩ = some (.slice b2 D.pend.length d2) := cell_block hX3 1
  have hr30 : w3.cell? ⟨N + 1, 0, none⟩ = some (.slice none 0 0) := cell_block hRes3 0
  have hr31 : w3.cell? ⟨N + 1, 1, none⟩ = some (.slice none 0 0) := cell_block hRes3 1
  have hfr0 := free_block hRes3 0
  have hfr1 := free_block hRes3 1
  have hb30 : w3.cell? ⟨N, 0, none⟩ = some (.slice a1 D.safe.length c1) := cell_block hBox3 0
  have hb31 : w3.cell? ⟨N, 1, none⟩ = some (.slice a2 D.pend.length c2) := cell_block hBox3 1
  clear hX hC1X hC0X hBoxX hResX hO1X hc3 hWX hq0 hq1
  have hFN : ∀ k ∈ F1, N + 2 ≤ k := fun k hk => by have := HF.out k (List.mem_append_left _ hk); have := HWs.out; omega
  have HFN := Lib.hid hFN
  have HX2 := Lib.hid (show N + 2 ≤ X by have := HWs.out; omega)
  clear hFN
  by_cases hok : DiskOkP D
  · have hd : decide (DiskOkP D) = true := decide_eq_true hok
    have HR := Lib.hid (show crashR D ch = crashD D ch from if_pos hok)
    have HOK := Lib.hid hok
    have HO13 := Lib.hid hO13
    have HX3 := Lib.hid hX3
    have HBox3 := Lib.hid hBox3
    have HRes3 := Lib.hid hRes3
    clear hok hX3 hBox3 hRes3 hO13
    have hmk := make_fact (P := Try.prog) 119 3 (.int .i64 0) 1 8 Try.underlying119 info_int D.safe.length (by omega) (by omega)
    have hmade := Lib.hid (SlOwn.made (d := Sh.int .i64) (e := 3) (z := #[.int .i64 0]) (x := 0) w3 D.safe.length (by unfold maxLen; omega) rfl (fun _ => ⟨rfl, rfl⟩))
    go_wp2
    obtain ⟨W4, hW4⟩ : ∃ W4 : World, W4 = w3.alloc (.cells (madeCells #[.int .i64 0] D.safe.length) 3) := ⟨_, rfl⟩
    rw [← hW4]
    have HM4 := Lib.hid (show SlOwn (Sh.int .i64) 3 [w3.heap.size] W4 (.slice (some ⟨w3.heap.size, 0, none⟩) D.safe.length D.safe.length) (cntP D.safe.length (D.pend.take 0)) by
      rw [hW4, List.take_zero, cntP_nil]
      have := hmade.out
      rwa [show D.safe.length * (Sh.int .i64).sz = D.safe.length from Nat.mul_one _] at this)
    have HC4 := Lib.hid (show Chg [] w3 W4 by rw [hW4]; exact (Chg.refl _ _).alloc _)
    have hC4s := HM4.out.lt _ (List.mem_singleton.2 rfl)
    have hX3s := lt_block HX3.out
    have hB3s := lt_block HBox3.out
    clear hmk hmade hW4 hx30 hx31 hr30 hr31 hfr0 hfr1
    have hb40 := ((HC4.out.cell (b := N) (o := 0) hB3s (by simp)).1).trans hb30
    have hb41 := ((HC4.out.cell (b := N) (o := 1) hB3s (by simp)).1).trans hb31
    obtain ⟨Cn, hCn⟩ : ∃ Cn, Cn = w3.heap.size := ⟨_, rfl⟩
    rw [← hCn] at HM4 hC4s hX3s hB3s ⊢
    have HCn := Lib.hid hCn
    clear hCn hb30 hb31
    go_loopw [8] (fun i wr => ∃ q : Nat, q ≤ D.pend.length ∧ i = .int .i64 q ∧ SlOwn (Sh.int .i64) 3 [Cn] wr (.slice (some ⟨Cn, 0, none⟩) D.safe.length D.safe.length) (cntP D.safe.length (D.pend.take q)) ∧ Chg [Cn] W4 wr) (fun i _ => D.pend.length - (intOf i).toNat)
    case atStart => exact ⟨0, by omega, rfl, HM4.out, Chg.refl _ _⟩
    case round =>
      obtain ⟨q, hq, rfl, hown, hchg⟩ := hrel
      have hbox1 : wr.cell? ⟨N, 1, none⟩ = some (.slice a2 D.pend.length c2) := (hchg.cell (b := N) (o := 1) (by omega) (by simp; omega)).1.trans hb41
      have hw1 : Chg [] w wr := (HC3.out.trans HC4.out).step hchg (fun b hb => .inr (by have := HC3.out.size; have := HCn.out; simp at hb; omega))
      by_cases hlt : q < D.pend.length
      · obtain ⟨b, o, u, rfl, hSb, hbl, hcell0, hcell1, hr⟩ := pend_cell (HH.out.2.up HS.out hw1) q hlt
        obtain ⟨e1, e2, e3⟩ := HOK.out.2.2 D.pend[q] (List.getElem_mem hlt)
        obtain ⟨b', hBb, ha, hbl', hq3, hz3⟩ := hown.store D.pend[q].pos.toNat (by rw [cntP_length]; omega)
        cases ha
        rw [cntP_get] at hq3
        have hpe : ((D.pend[q].pos.toNat : Nat) : Int) = D.pend[q].pos := by omega
        rw [hpe] at hq3
        have hil := idxOf_length_le (D.pend.take q) D.pend[q].pos
        have hTl : (D.pend.take q).length = q := by simp; omega
        rw [hTl] at hil
        have HO := Lib.hid hown
        have HC := Lib.hid hchg
        have HPe := Lib.hid hpe
        generalize hgk : (idxOf (D.pend.take q) D.pend[q].pos).length = k at *
        have HGk := Lib.hid hgk
        clear hown hchg hcell1 hr hw1 hBb e3 hpe hTl hgk
        go_wp2
        go_roundw
        case rel =>
          have h5 := HO.out.set D.pend[q].pos.toNat (by rw [cntP_length]; omega) ((k : Int) + 1)
          refine ⟨q + 1, by omega, by go_num, ?_, HC.out.setCell (.inl (by simp)) _⟩
          rw [take_snoc D.pend q hlt, cntP_snoc _ _ _ e1, HGk.out]
          exact h5
        case measure => simp [intOf]; omega
      · obtain rfl : q = D.pend.length := by omega
        obtain ⟨W5, hW5⟩ : ∃ W5, W5 = wr := ⟨_, rfl⟩
        subst hW5
        rw [List.take_length] at hown
        have hF1C : Cn ∉ F1 := fun hm => by have := HO13.out.lt _ hm; have := HCn.out; omega
        have hc35 : Chg [Cn] w3 W5 := (HC4.out.mono (by simp)).trans hchg
        have HO5 := Lib.hid (HO13.out.mono (hc35.same fun k hk => ⟨HO13.out.lt k hk, fun hm => hF1C (by simp at hm; exact hm ▸ hk)⟩))
        have HX5 := Lib.hid ((hc35.block X (lt_block HX3.out) (by simp; omega)).trans HX3.out)
        have HBox5 := Lib.hid ((hc35.block N (lt_block HBox3.out) (by simp; omega)).trans HBox3.out)
        have HRes5 := Lib.hid ((hc35.block (N + 1) (lt_block HRes3.out) (by simp; have := lt_block HX3.out; have := HX2.out; omega)).trans HRes3.out)
        have HCo5 := Lib.hid hown
        have HW5 := Lib.hid hw1
        have HF5 := Lib.hid (show ∀ k ∈ F1, N + 2 ≤ k ∧ k ≠ X ∧ k ≠ Cn from fun k hk => ⟨HFN.out k hk, fun e => hF1X (e ▸ hk), fun e => hF1C (e ▸ hk)⟩)
        have hF1n := (List.nodup_append.1 hnd).1
        clear hown hchg hw1 hc35 hF1C hlt
        go_wp2
        go_loopw [9, 10] (fun n i wr => ∃ (p : Nat) (F : List Nat), p ≤ D.safe.length ∧ i = .int .i64 p ∧ n = .int .i64 (((List.range p).foldl (crashStep D.pend ch) (0, D.safe)).1 : Nat) ∧
          SlOwn bytesSh 22 F wr (.slice b1 D.safe.length d1) ((List.range p).foldl (crashStep D.pend ch) (0, D.safe)).2 ∧ F.Nodup ∧ (∀ k ∈ F, N + 2 ≤ k ∧ k ≠ X ∧ k ≠ Cn) ∧
          wr.heap[X]? = some (.cells #[.slice b1 D.safe.length d1, .slice b2 D.pend.length d2] 26 (0, 0)) ∧ wr.heap[N]? = some (.cells #[.slice a1 D.safe.length c1, .slice a2 D.pend.length c2] 26 (0, 0)) ∧
          wr.heap[N + 1]? = some (.cells #[.slice none 0 0, .slice none 0 0] 26 (0, 0)) ∧ SlOwn (Sh.int .i64) 3 [Cn] wr (.slice (some ⟨Cn, 0, none⟩) D.safe.length D.safe.length) (cntP D.safe.length D.pend) ∧ Chg [] w wr)
          (fun _ i _ => D.safe.length - (intOf i).toNat)
        case atStart => exact ⟨0, F1, by omega, rfl, rfl, HO5.out, hF1n, HF5.out, HX5.out, HBox5.out, HRes5.out, HCo5.out, HW5.out⟩
        case round =>
          obtain ⟨p, F, hp, rfl, rfl, hown, hFn, hFk, hX, hBox, hRes, hcn, hw1⟩ := hrel
          have hbox0 : wr.cell? ⟨N, 0, none⟩ = some (.slice a1 D.safe.length c1) := cell_block hBox 0
          have hbox1 : wr.cell? ⟨N, 1, none⟩ = some (.slice a2 D.pend.length c2) := cell_block hBox 1
          have hnle := crash_fst_le D.pend ch p (0, D.safe)
          have hsl := crashFold_len D.pend ch (List.range p) (0, D.safe)
          have hstep := foldl_range_succ (crashStep D.pend ch) (0, D.safe) p
          generalize hst : (List.range p).foldl (crashStep D.pend ch) (0, D.safe) = st at *
          obtain ⟨nn, sf⟩ := st
          by_cases hlt : p < D.safe.length
          · obtain ⟨_, _, ha, hCl, hcc0, hzc⟩ := hcn.store p (by rw [cntP_length]; omega)
            cases ha
            rw [cntP_get] at hcc0
            have hkl := idxOf_length_le D.pend (p : Nat)
            have HST := Lib.hid hstep
            have HSL := Lib.hid hsl
            have HX := Lib.hid hX
            have HBx := Lib.hid hBox
            have HRs := Lib.hid hRes
            have HCN := Lib.hid hcn
            have HOw := Lib.hid hown
            have HFk := Lib.hid hFk
            have HW1 := Lib.hid hw1
            have hXl := lt_block hX
            clear hstep hsl hX hBox hRes hcn hown hFk hw1 hst
            obtain ⟨k, hk⟩ : ∃ k, k = (idxOf D.pend (p : Nat)).length := ⟨_, rfl⟩
            rw [← hk] at hcc0 hkl
            have HK := Lib.hid hk
            clear hk
            by_cases hk0 : k = 0
            · have hz : ((k : Int) == 0) = true := by simp [hk0]
              have HST2 := Lib.hid (show (List.range (p + 1)).foldl (crashStep D.pend ch) (0, D.safe) = (nn, sf) by rw [HST.out]; unfold crashStep; rw [if_pos (by rw [← HK.out]; exact hk0)])
              clear hk0
              go_wp2
              go_roundw
              case rel => exact ⟨p + 1, F, by omega, by go_num, by rw [HST2.out], by rw [HST2.out]; exact HOw.out, hFn, HFk.out, HX.out, HBx.out, HRs.out, HCN.out, HW1.out⟩
              case measure => simp [intOf]; omega
            · have hz : ((k : Int) == 0) = false := by simp; omega
              by_cases hc0 : ch.length = 0
              · have HJ := Lib.hid (show crashJ D.pend ch nn p = 0 by unfold crashJ crashC; rw [if_pos hc0, Nat.zero_mod])
                have hcle : ch.length ≤ 0 := by omega
                have HST2 := Lib.hid (show (List.range (p + 1)).foldl (crashStep D.pend ch) (0, D.safe) = (nn + 1, sf) by rw [HST.out]; unfold crashStep; rw [if_neg (by rw [← HK.out]; exact hk0), if_pos HJ.out])
                clear hc0
                go_wp2
                go_roundw
                case rel => exact ⟨p + 1, F, by omega, by go_num, by rw [HST2.out]; go_num, by rw [HST2.out]; exact HOw.out, hFn, HFk.out, HX.out, HBx.out, HRs.out, HCN.out, HW1.out⟩
                case measure => simp [intOf]; omega
              · have hclt : 0 < ch.length := by omega
                have hmod : nn % ch.length < ch.length := Nat.mod_lt _ hclt
                obtain ⟨bc, oc, hac, hSc, hbc, hcellc⟩ := (HCh.out.up HS.out HW1.out).cell (nn % ch.length) hmod
                cases hac
                obtain ⟨c, hc⟩ : ∃ c, c = (ch[nn % ch.length]'hmod).toNat := ⟨_, rfl⟩
                rw [← hc] at hcellc
                have hc256 : c < 256 := by rw [hc]; exact (ch[nn % ch.length]'hmod).toNat_lt
                have HCc := Lib.hid (show crashC ch nn = c by unfold crashC; rw [if_neg hc0, getD_get hmod, hc])
                have hcw : IntKind.i64.wrap (c : Int) = c := wrap_small (by omega) (by omega)
                have HJ := Lib.hid (show crashJ D.pend ch nn p = c % (k + 1) by unfold crashJ; rw [HCc.out, ← HK.out])
                have hjk : c % (k + 1) < k + 1 := Nat.mod_lt _ (by omega)
                have hjm : (c : Int) % ((k : Int) + 1) = ((c % (k + 1) : Nat) : Int) := by simp
                have hk0' : 0 < (idxOf D.pend (p : Nat)).length := by rw [← HK.out]; omega
                have HST2 := Lib.hid (show (List.range (p + 1)).foldl (crashStep D.pend ch) (0, D.safe) = (nn + 1, if c % (k + 1) = 0 then sf else sf.set p (datum D.pend ((idxOf D.pend p).getD (c % (k + 1) - 1) 0))) by
                  rw [HST.out]; unfold crashStep; rw [if_neg (by omega)]; simp only [HJ.out])
                clear hc hc0 hk0'
                generalize c % (k + 1) = j at *
                rcases Nat.eq_zero_or_pos j with hj | hj
                · have hjm0 : (c : Int) % ((k : Int) + 1) = 0 := by rw [hjm, hj]; rfl
                  have HST3 := Lib.hid (show (List.range (p + 1)).foldl (crashStep D.pend ch) (0, D.safe) = (nn + 1, sf) by rw [HST2.out, if_pos hj])
                  clear hjm hj
                  go_wp2
                  go_roundw
                  case rel => exact ⟨p + 1, F, by omega, by go_num, by rw [HST3.out]; go_num, by rw [HST3.out]; exact HOw.out, hFn, HFk.out, HX.out, HBx.out, HRs.out, HCN.out, HW1.out⟩
                  case measure => simp [intOf]; omega
                · obtain ⟨m, rfl⟩ : ∃ m, j = m + 1 := ⟨j - 1, by omega⟩
                  have hjm1 : (c : Int) % ((k : Int) + 1) = (m : Int) + 1 := by rw [hjm]; omega
                  have hwm : IntKind.i64.wrap (m : Int) = m := wrap_small (by omega) (by omega)
                  have HST3 := Lib.hid (show (List.range (p + 1)).foldl (crashStep D.pend ch) (0, D.safe) = (nn + 1, sf.set p (datum D.pend ((idxOf D.pend p).getD m 0))) by rw [HST2.out, if_neg (by omega)]; rfl)
                  have hsl2 : p < sf.length := by have := HSL.out; simp at this; omega
                  obtain ⟨b', hbF, ha, hb, _⟩ := HOw.out.storeE p hsl2
                  cases ha
                  have hx0 : wr.cell? ⟨X, 0, none⟩ = some (.slice (some ⟨b', 0, none⟩) D.safe.length d1) := cell_block HX.out 0
                  clear hjm hj
                  go_wp2
                  refine wp_region_sched (fun w' => w'.cell? ⟨X, 0, none⟩ = some (.slice (some ⟨b', 0, none⟩) D.safe.length d1) ∧ w'.cell? ⟨N, 0, none⟩ = some (.slice a1 D.safe.length c1) ∧ w'.cell? ⟨N, 1, none⟩ = some (.slice a2 D.pend.length c2))
                    [11, 12] [.pure 0, .st 1, .pure 2, .st 3, .pure 4, .pure 6, .pure 7, .ac 5, .ac 8, .ac 9, .ac 10, .ac 11, .ac 12] (by kernel_rfl) (by kernel_rfl) ⟨hx0, hbox0, hbox1⟩ ?_
                  have HS0 : (fun w' : World => w'.cell? ⟨X, 0, none⟩ = some (.slice (some ⟨b', 0, none⟩) D.safe.length d1) ∧ w'.cell? ⟨N, 0, none⟩ = some (.slice a1 D.safe.length c1) ∧ w'.cell? ⟨N, 1, none⟩ = some (.slice a2 D.pend.length c2)) wr.drew := ⟨hx0, hbox0, hbox1⟩
                  (iterate 7 (first | (refine sched_pure (by rfl) ?_; apply Exists.intro; apply Exists.intro; refine ⟨fun w' hS' Kp hK => ?_, ?_⟩; (· (try dsimp only at hS'); go_simp; (repeat (go_ite <;> go_prune <;> (try go_simp))); (all_goals first | exact hK | (refine valUpon_ok ?_; exact hK)))) | (refine sched_st (by rfl) (by assumption) ?_; apply Exists.intro; apply Exists.intro; refine ⟨fun w' hS' Kp hK => ?_, ?_⟩; (· (try dsimp only at hS'); go_simp; (repeat (go_ite <;> go_prune <;> (try go_simp))); (all_goals first | exact hK | (refine valUpon_ok ?_; exact hK))))))
                  (refine sched_ac (by rfl) ?_)
                  go_wp2_with fail
                  have hSr : ∀ b, S b → b < wr.drew.heap.size := fun b hb => by have := HS.out b hb; have := HW1.out.size; simp; omega
                  refine (spec_l1Writes_calls _ _ p D S wr.drew ⟨(HH.out.1.up HS.out HW1.out).drew, (HH.out.2.up HS.out HW1.out).drew⟩ hSr hl2).mono ?_
                  rintro e w6 ⟨v6, rfl, hr6, hc6⟩
                  obtain ⟨a6, c6, rfl, -, -⟩ := hr6.form
                  have hm6 : m < ((idxOf D.pend (p : Nat)).map (datum D.pend)).length := by rw [List.length_map, ← HK.out]; omega
                  obtain ⟨bw, ow, uw, rfl, -, hbw, hcw, hrw⟩ := hr6.cellS m hm6
                  obtain ⟨aw, cw, rfl, -, -⟩ := hrw.form
                  have hl6 : ((idxOf D.pend (p : Nat)).map (datum D.pend)).length = k := by rw [List.length_map, ← HK.out]
                  have hd6 : ((idxOf D.pend (p : Nat)).map (datum D.pend))[m] = datum D.pend ((idxOf D.pend p).getD m 0) := by
                    rw [List.getElem_map]; congr 1; rw [List.getD_eq_getElem?_getD, List.getElem?_eq_getElem (by simpa using hm6)]; rfl
                  have hdl : (datum D.pend ((idxOf D.pend (p : Nat)).getD m 0)).length ≤ 1048576 := by
                    have hmi : (idxOf D.pend (p : Nat)).getD m 0 ∈ idxOf D.pend (p : Nat) := by
                      rw [List.getD_eq_getElem?_getD, List.getElem?_eq_getElem (by simpa using hm6)]; exact List.getElem_mem _
                    obtain ⟨hmlt, _⟩ := idxOf_lt hmi
                    rw [datum_eq hmlt]; exact HD2.out _ hmlt
                  rw [hd6] at hrw hcw
                  rw [hl6]
                  generalize hdg : datum D.pend ((idxOf D.pend (p : Nat)).getD m 0) = dat at *
                  have hq1 := hc6.cell (b := X) (o := 0) hXl (by simp)
                  have hq2 := hc6.cell (b := N) (o := 0) (lt_block HBx.out) (by simp)
                  have hq3 := hc6.cell (b := N) (o := 1) (lt_block HBx.out) (by simp)
                  have HS1 := Lib.hid (show w6.cell? ⟨X, 0, none⟩ = some (.slice (some ⟨b', 0, none⟩) D.safe.length d1) ∧ w6.cell? ⟨N, 0, none⟩ = some (.slice a1 D.safe.length c1) ∧ w6.cell? ⟨N, 1, none⟩ = some (.slice a2 D.pend.length c2) from
                    ⟨hq1.1.trans hx0, hq2.1.trans hbox0, hq3.1.trans hbox1⟩)
                  have HRW := Lib.hid hrw
                  have HC6 := Lib.hid hc6
                  clear hq1 hq2 hq3 hr6 hrw hc6 hm6 hl6 hd6 hdg
                  go_wp2_with fail
                  (unfold KeepPost; refine ⟨fun _ => HS1.out, ?_⟩)
                  (refine sched_ac (by rfl) ?_)
                  go_wp2_with fail
                  (unfold KeepPost; refine ⟨fun _ => HS1.out, ?_⟩)
                  (refine sched_ac (by rfl) ?_)
                  go_wp2_with fail
                  (unfold KeepPost; refine ⟨fun _ => HS1.out, ?_⟩)
                  (refine sched_ac (by rfl) ?_)
                  go_wp2_with fail
                  refine (spec_l1Bytes_calls _ dat _ w6 HRW.out (fun b hb => hb) (by omega)).mono ?_
                  rintro e w7 ⟨v7, G, rfl, hG, hGn, hGf, hc7⟩
                  obtain ⟨ag, cg, rfl, -, -⟩ := hG.rd.form
                  have hs6 := HC6.out.size
                  have hX6 := (HC6.out.block X (by simpa using hXl) (by simp)).trans HX.out
                  have hX7 := (hc7.block X (lt_block hX6) (by simp)).trans hX6
                  have hB6 := (HC6.out.block N (by simpa using lt_block HBx.out) (by simp)).trans HBx.out
                  have hB7 := (hc7.block N (lt_block hB6) (by simp)).trans hB6
                  have hR6 := (HC6.out.block (N + 1) (by simpa using lt_block HRs.out) (by simp)).trans HRs.out
                  have hR7 := (hc7.block (N + 1) (lt_block hR6) (by simp)).trans hR6
                  have hO7 := (HOw.out.drewN 1 |>.up HC6.out).up hc7
                  have hCN7 := (HCN.out.drewN 1 |>.up HC6.out).up hc7
                  have hW7 := (HW1.out.drew.trans HC6.out).trans hc7
                  have HS7 := Lib.hid (show w7.cell? ⟨X, 0, none⟩ = some (.slice (some ⟨b', 0, none⟩) D.safe.length d1) ∧ w7.cell? ⟨N, 0, none⟩ = some (.slice a1 D.safe.length c1) ∧ w7.cell? ⟨N, 1, none⟩ = some (.slice a2 D.pend.length c2) from
                    ⟨cell_block hX7 0, cell_block hB7 0, cell_block hB7 1⟩)
                  obtain ⟨b7, hbF7, ha7, hb7, hst7⟩ := hO7.storeE p hsl2
                  cases ha7
                  obtain ⟨⟨q7, hq7⟩, hz7⟩ := hst7 0 (by decide)
                  simp only [bytesSh_sz, Nat.mul_one, Nat.add_zero] at hq7 hz7
                  have hdis : ∀ k ∈ G, k ∉ F := fun k hk hm => by have := hGf k hk; have := HOw.out.lt k hm; simp at hs6; omega
                  obtain ⟨F', k1, k2, k3, _⟩ := hO7.setE (G := G) (cs := [.slice ag _ cg]) (x := dat) p hsl2 ⟨_, rfl, hG⟩ (fun hm => hdis _ hm hbF) hFn hGn hdis
                  have K1 := Lib.hid k1
                  have K3 := Lib.hid (show ∀ k ∈ F', N + 2 ≤ k ∧ k ≠ X ∧ k ≠ Cn from fun k hk => by
                    rcases k3 k hk with h | h
                    · exact HFk.out k h
                    · have h1 := hGf k h; have h2 := lt_block HX.out; simp at hs6; have := HX2.out
                      exact ⟨by omega, by omega, by omega⟩)
                  have HXX := Lib.hid hX7
                  have HBB := Lib.hid hB7
                  have HRR := Lib.hid hR7
                  have HCC := Lib.hid hCN7
                  have HWW := Lib.hid hW7
                  clear hX6 hX7 hB6 hB7 hR6 hR7 hO7 hCN7 hW7 hst7 k1 k3 hdis hG hGf hc7
                  go_wp2_with fail
                  (unfold KeepPost; refine ⟨fun _ => HS7.out, ?_⟩)
                  (refine sched_ac (by rfl) ?_)
                  go_wp2_with fail
                  (unfold KeepPost; refine ⟨fun h => absurd h (by decide), ?_⟩)
                  (refine sched_ac (by rfl) ?_)
                  go_wp2_with fail
                  (unfold KeepPost; refine ⟨fun h => absurd h (by decide), ?_⟩)
                  (refine NoPanic.normal ?_)
                  go_wp2
                  go_roundw
                  case rel =>
                    have hb3 := HFk.out _ hbF
                    have h0 := HN.out
                    refine ⟨p + 1, F', by omega, by go_num, by rw [HST3.out]; go_num, ?_, k2, K3.out, ?_, ?_, ?_, HCC.out.far (by simp; exact fun e => hb3.2.2 e) _, HWW.out.setCell (.inr (by simp; omega)) _⟩
                    · rw [HST3.out]; simpa [bytesSh_sz, putCells] using K1.out
                    · rw [Below.heap_setCell _ _ _ _ (fun e => hb3.2.1 e.symm)]; exact HXX.out
                    · rw [Below.heap_setCell _ _ _ _ (by simp; omega)]; exact HBB.out
                    · rw [Below.heap_setCell _ _ _ _ (by simp; omega)]; exact HRR.out
                  case measure => simp [intOf]; omega
          · obtain rfl : p = D.safe.length := by omega
            have hy0 : wr.cell? ⟨X, 0, none⟩ = some (.slice b1 D.safe.length d1) := cell_block hX 0
            have hy1 : wr.cell? ⟨X, 1, none⟩ = some (.slice b2 D.pend.length d2) := cell_block hX 1
            have hyf := free_block hX 1
            have hr0 : wr.cell? ⟨N + 1, 0, none⟩ = some (.slice none 0 0) := cell_block hRes 0
            have hr1 : wr.cell? ⟨N + 1, 1, none⟩ = some (.slice none 0 0) := cell_block hRes 1
            have hrf0 := free_block hRes 0
            have hrf1 := free_block hRes 1
            have hXl := lt_block hX
            have hRl := lt_block hRes
            have hNl := lt_block hBox
            have HCD := Lib.hid (show crashD D ch = ⟨sf, []⟩ by unfold crashD; rw [hst])
            have HOY := Lib.hid hown
            have HWW := Lib.hid hw1
            have HFk := Lib.hid hFk
            have hNX : N + 1 ≠ X := by have := HX2.out; omega
            clear hown hFk hX hBox hRes hcn hw1 hstep hsl hnle hst
            have hsp := lt_block HRes3.out
            go_wp2
            have hn1 : N + 1 ∉ F := fun hm => by have := HFk.out _ hm; omega
            have hn2 : X ∉ F := fun hm => (HFk.out _ hm).2.1 rfl
            have e1 := ((((HOY.out.far (p := ⟨X, 1, none⟩) hn2 (.slice (some ⟨wr.heap.size, 0, none⟩) 0 0)).far (p := ⟨N + 1, 0, none⟩) hn1 (.slice b1 D.safe.length d1)).far (p := ⟨N + 1, 1, none⟩) hn1 (.slice (some ⟨wr.heap.size, 0, none⟩) 0 0))).up ((Chg.refl [] _).alloc (.cells #[] 121))
            have h0 := HN.out
            refine bodyPost_ret (v := .tuple #[.agg #[.slice b1 D.safe.length d1, .slice (some ⟨wr.heap.size, 0, none⟩) 0 0], .bool true]) (by simp [results, Try.results23, go_sem, hr0, hr1, hRl]) rfl
              ⟨_, _, rfl, ?_, (((HWW.out.setCell (.inr (by simp; omega)) _).setCell (.inr (by simp; omega)) _).setCell (.inr (by simp; omega)) _).alloc _⟩
            rw [HR.out, HCD.out]
            exact ⟨e1.rd.mono (fun b hb => e1.lt b hb) (Same.refl _ _), ⟨_, _, rfl, by simp, by simp [maxLen], by simp⟩⟩
  · have hd : decide (DiskOkP D) = false := decide_eq_false hok
    have HR := Lib.hid (show crashR D ch = D from if_neg hok)
    have HO13 := Lib.hid hO13
    have hNs := lt_block hRes3
    clear hok hX3 hBox3 hRes3 hO13
    go_wp2
    have hn1 : N + 1 ∉ F1 := fun hm => by have := HFN.out _ hm; omega
    have hn2 : N + 1 ∉ F2 := fun hm => by have := HF.out _ (List.mem_append_right _ hm); have := HWs.out; omega
    have e1 := (HO13.out.far (p := ⟨N + 1, 0, none⟩) hn1 (.slice b1 D.safe.length d1)).far (p := ⟨N + 1, 1, none⟩) hn1 (.slice b2 D.pend.length d2)
    have e2 := (HO23.out.far (p := ⟨N + 1, 0, none⟩) hn2 (.slice b1 D.safe.length d1)).far (p := ⟨N + 1, 1, none⟩) hn2 (.slice b2 D.pend.length d2)
    refine bodyPost_ret (v := .tuple #[.agg #[.slice b1 D.safe.length d1, .slice b2 D.pend.length d2], .bool false]) (by simp [results, Try.results23, go_sem, hr30, hr31]) rfl
      ⟨_, _, by rw [hd], ?_, (HC3.out.setCell (.inr (by have := HN.out; simp; omega)) _).setCell (.inr (by have := HN.out; simp; omega)) _⟩
    rw [HR.out]
    exact ⟨e1.rd.mono (fun b hb => e1.lt b hb) (Same.refl _ _), e2.rd.mono (fun b hb => e2.lt b hb) (Same.refl _ _)⟩
end Go.Proofs.Ytjolhaefnloaoaa
