/- The device's crash, walked. -/
import Derived.Test.YtjolhaefnloaoaaE3
import Derived.Defers
namespace Go.Proofs.Ytjolhaefnloaoaa
open Go.RowKit Sh Go.MuLone

theorem secsOf_length_le (ps : List PendD) : (secsOf ps).length ≤ ps.length := by
  unfold secsOf
  exact Nat.le_trans (List.length_filterMap_le _ _) (by simp)

theorem pos_wf {x : Int} (h0 : 0 ≤ x) (h1 : x ≤ 1000000000) : (Lit.int .i64 x).wf = true := by
  have e1 : IntKind.min .i64 = -9223372036854775808 := by decide
  have e2 : IntKind.max .i64 = 9223372036854775807 := by decide
  simp only [Lit.wf, e1, e2, Bool.and_eq_true, decide_eq_true_eq]
  omega

set_option maxRecDepth 100000 in
set_option maxHeartbeats 4000000 in
theorem crash_calls (B M : Nat) (v1 v2 vc : Value) (D : DiskD) (ch : List UInt8) (F1 F2 : List Nat) (S : Nat → Prop) (n : Nat) (f : Int → Option Value) (w : World) (hdev : Dev w B M v1 v2 0 n f) (h1 : SlOwn bytesSh 22 F1 w v1 D.safe) (h2 : SlOwn pendSh 121 F2 w v2 D.pend)
    (hnd : (F1 ++ F2).Nodup) (hBF : B ∉ F1 ++ F2) (hMF : M ∉ F1 ++ F2) (hch : SlRd byte S w vc ch) (hS : ∀ b, S b → b < w.heap.size ∧ b ≠ B ∧ b ≠ M ∧ b ∉ F1) (hok : DiskOkP D) :
    Calls Try.prog 65 #[.pointer (some ⟨B, 0, none⟩), vc] w fun e w' => e = .returned (.tuple #[]) ∧ ∃ F',
      w'.heap[B]? = some (.cells #[.int .i32 0, .int .u32 0, v1, .slice none 0 0, .map (some M)] 88 (0, 0)) ∧ SlOwn bytesSh 22 F' w' v1 (crashD D ch).safe ∧ F'.Nodup ∧ (∀ k ∈ F', k ∈ F1 ∨ k ∈ F2) ∧ Chg (B :: M :: F1) w w' := by
  obtain ⟨hB, hmap, hBM⟩ := hdev
  obtain ⟨a1, c1, rfl, _, _⟩ := h1.rd.form
  obtain ⟨a2, c2, rfl, _, _⟩ := h2.rd.form
  obtain ⟨ac, cc, rfl, _, _⟩ := hch.form
  have hb1 := h1.rd.bound
  have hb2 := h2.rd.bound
  have hl1 := hok.1.2.1
  have hl2 := hok.1.2.2
  obtain ⟨sv, Gs, hsv, hGo, hGd⟩ := pend_owns h2 (List.nodup_append.1 hnd).2.1
  have HV := Lib.hid hsv
  have HGo := Lib.hid hGo
  have HGd := Lib.hid hGd
  clear hGo hGd
  have HOK := Lib.hid hok
  have hmm := @run_makeMap Try.prog
  obtain ⟨W1, hW1⟩ : ∃ W1 : World, W1 = w.setCell ⟨B, 0, none⟩ (.int .i32 1) := ⟨_, rfl⟩
  have hB1 : W1.heap[B]? = some (.cells #[.int .i32 1, .int .u32 0, .slice a1 D.safe.length c1, .slice a2 D.pend.length c2, .map (some M)] 88 (0, 0)) := by rw [hW1]; exact block_set hB 0 _
  have hC1 : Chg [B] w W1 := by rw [hW1]; exact (Chg.refl _ _).setCell (.inl (by simp)) _
  have hBl := lt_block hB1
  have HB1 := Lib.hid hB1
  have HC1 := Lib.hid hC1
  have hbc3 : W1.cell? ⟨B, 3, none⟩ = some (.slice a2 D.pend.length c2) := cell_block hB1 3
  clear hsv hok hB1 hC1
  go_enter_defers Try.func65, Try.ntmps65
  go_wp2_with fail
  refine (lock_free muLib ⟨B, 0, none⟩ _ (cell_block hB 0) (free_block hB 0)).mono ?_
  rintro e w' ⟨rfl, rfl⟩
  rw [← hW1]
  clear hW1
  go_wp2_with fail
  obtain ⟨MW, hMW⟩ : ∃ MW, MW = W1.heap.size := ⟨_, rfl⟩
  obtain ⟨W2, hW2⟩ : ∃ W2 : World, W2 = W1.alloc (.map #[] 0) := ⟨_, rfl⟩
  rw [← hW2, ← hMW]
  have hG0 : Grp sv (D.pend.take 0) MW W2 MW 0 (fun _ => none) (fun _ => []) := by
    refine ⟨?_, fun x => ?_, fun x k hk => (by cases hk), fun x y _ k hk => (by cases hk)⟩
    · rw [hW2, hMW]; exact MapI.made _ _ _
    · simpa [idxOf] using Row.nil (fun cs m => cs = [encV sv m]) 1 22 W2 none
  have HG0 := Lib.hid hG0
  have HC2 := Lib.hid (show Chg [] W1 W2 by rw [hW2]; exact (Chg.refl _ _).alloc _)
  have hMl := hG0.map.lt
  have HWl := Lib.hid (show W2.heap.size = MW + 1 by rw [hW2, hMW]; simp)
  have HM := Lib.hid hMW
  clear hG0 hW2 hMW hbc3
  go_loopw [5, 25] (fun sec i wr => ∃ (q : Nat) (g : Int → Option Value) (Bf : Int → List Nat) (Bs : List Nat), q ≤ D.pend.length ∧ i = .int .i64 q ∧ Grp sv (D.pend.take q) MW wr MW q g Bf ∧
    Row (fun cs x => cs = [.int .i64 x]) 1 3 Bs wr sec (secsOf (D.pend.take q)) ∧ (∀ k ∈ Bs, MW ≤ k ∧ k ≠ MW ∧ ∀ x, k ∉ Bf x) ∧ Chg [] W1 wr) (fun _ i _ => D.pend.length - (intOf i).toNat)
  case atStart => exact ⟨0, _, _, [], by omega, rfl, HG0.out, by simpa [secsOf] using Row.nil (fun cs (x : Int) => cs = [.int .i64 x]) 1 3 W2 none, by simp, HC2.out⟩
  case round =>
    obtain ⟨q, g, Bf, Bs, hq, rfl, hG, hs, hBs, hchg⟩ := hrel
    obtain ⟨asec, csec, rfl, -, -⟩ := hs.form
    by_cases hlt : q < D.pend.length
    · obtain ⟨b, o, rfl, hbF, hbl, hcell0, hcell1, hr⟩ := HV.out q hlt
      have hbB : b ≠ B := fun e => hBF (List.mem_append_right _ (e ▸ hbF))
      have hw0 : Chg [B] w wr := HC1.out.trans (hchg.mono (by simp))
      have hc0 := (hw0.cell (o := o + q * 2) hbl (by simpa using hbB)).1.trans hcell0
      have hc1 := (hw0.cell (o := o + q * 2 + 1) hbl (by simpa using hbB)).1.trans hcell1
      have hpos := HOK.out.2.2 D.pend[q] (List.getElem_mem hlt)
      have hwf : (Lit.int .i64 D.pend[q].pos).wf = true := pos_wf hpos.1 (by omega)
      have hTl : (D.pend.take q).length = q := by simp; omega
      obtain ⟨WA, hWA⟩ : ∃ WA : World, WA = wr.alloc (.cells #[.int .i64 D.pend[q].pos, .slice (sv q).1 (sv q).2.1 (sv q).2.2] 121) := ⟨_, rfl⟩
      have hCA : Chg [] wr WA := by rw [hWA]; exact (Chg.refl _ _).alloc _
      have hT := alloc_at (o := .cells #[.int .i64 D.pend[q].pos, .slice (sv q).1 (sv q).2.1 (sv q).2.2] 121) (w := wr) rfl
      rw [← hWA] at hT
      have hGA := hG.up hCA (by simp) (by simp)
      have hsA := hs.imp (fun _ _ _ h => h) (hCA.same fun k hk => ⟨hs.lt k hk, by simp⟩)
      have hBsT : ∀ k ∈ Bs, k < wr.heap.size := hs.lt
      have hBfT : ∀ x, ∀ k ∈ Bf x, k < wr.heap.size := fun x => (hG.row x).lt
      obtain ⟨ar, cr, hgv, -, -⟩ := (hG.row D.pend[q].pos).form
      have hlk := fun (W : World) (h : MapI Try.prog 3 W MW q g) => h.look Try.underlying3 Try.underlying156 (z := .slice none 0 0) (by kernel_rfl) hwf
      rw [hgv] at hlk
      have hlkA := hlk WA hGA.map
      rw [hWA] at hlkA
      have hMlt := hG.map.lt
      have hil := idxOf_length_le (D.pend.take q) D.pend[q].pos
      rw [hTl] at hil
      have HLk := Lib.hid hlk
      have HGA := Lib.hid hGA
      have HSA := Lib.hid hsA
      have HCA := Lib.hid hCA
      have HBs := Lib.hid hBs
      have HBsT := Lib.hid hBsT
      have HBfT := Lib.hid hBfT
      have HT := Lib.hid hT
      have HC := Lib.hid hchg
      have HTl := Lib.hid hTl
      have HGv := Lib.hid hgv
      have HSn := Lib.hid (by have := secsOf_snoc (D.pend.take q) D.pend[q]; rwa [← take_snoc D.pend q hlt] at this)
      have HFr := Lib.hid (show ∀ x, ∀ k ∈ Bf x, MW ≤ k ∧ k ≠ MW from hG.fresh)
      clear hCA hT hG hGA hs hsA hBs hBsT hBfT hgv hlk hchg hTl hcell0 hcell1 hr hw0
      generalize hkk : (idxOf (D.pend.take q) D.pend[q].pos).length = k at *
      have HK := Lib.hid hkk
      clear hkk
      by_cases hk0 : k = 0
      · have hz : ((k : Int) == 0) = true := by simp [hk0]
        have HSn1 := Lib.hid (show secsOf (D.pend.take (q + 1)) = secsOf (D.pend.take q) ++ [D.pend[q].pos] by rw [HSn.out, if_pos (List.eq_nil_of_length_eq_zero (HK.out.trans hk0))])
        have hsl := secsOf_length_le (D.pend.take q)
        rw [HTl.out] at hsl
        clear hk0
        rw [hWA] at HSA
        go_wp2_with (refine wpList_app1 (w := wr.alloc (.cells #[.int .i64 D.pend[q].pos, .slice (sv q).1 (sv q).2.1 (sv q).2.2] 121)) rfl _ _ 119 rfl 3 3 Bs (secsOf (D.pend.take q)) D.pend[q].pos (.slice asec (secsOf (D.pend.take q)).length csec) (.int .i64 D.pend[q].pos) rfl (by simp [Act.eval]) HSA.out rfl rfl (.int .i64 0) 8 Try.underlying119 info_int rfl (by omega) (by omega) ?_)
        intro v3 W3 Bs3 hr3 hc3 hBs3
        rw [← hWA] at hc3
        obtain ⟨a3, c3, rfl, -, -⟩ := hr3.form
        rw [show (secsOf (D.pend.take q) ++ [D.pend[q].pos]).length = (secsOf (D.pend.take q)).length + 1 by simp] at hr3 ⊢
        have hWAs : WA.heap.size = wr.heap.size + 1 := by rw [hWA]; simp
        have HT3 := Lib.hid ((hc3.block wr.heap.size (lt_block HT.out) (fun hm => absurd (HBsT.out _ hm) (by omega))).trans HT.out)
        have HG3 := Lib.hid (HGA.out.up hc3 (fun hm => (HBs.out _ hm).2.1 rfl) (fun x k' hk' hm => (HBs.out _ hm).2.2 x hk'))
        have HC3 := Lib.hid ((HC.out.trans HCA.out).step hc3 (fun k' hk' => .inr (by have := (HBs.out _ hk').1; have := HM.out; omega)))
        have HS3 := Lib.hid (show Row (fun cs x => cs = [.int .i64 x]) 1 3 Bs3 W3 (.slice a3 ((secsOf (D.pend.take q)).length + 1) c3) (secsOf (D.pend.take (q + 1))) by rw [HSn1.out]; exact hr3)
        have HB3 := Lib.hid (show ∀ k' ∈ Bs3, MW ≤ k' ∧ k' ≠ MW ∧ ∀ x, k' ∉ Bf x from fun k' hk' => by
          rcases hBs3 k' hk' with h | h
          · exact HBs.out k' h
          · exact ⟨by omega, by omega, fun x hx => absurd (HBfT.out x k' hx) (by omega)⟩)
        clear hr3 hc3 hBs3 hWA hlkA
        go_wp2
        have hT3l := lt_block HT3.out
        have hMl3 := HG3.out.map.lt
        have hm0 : W3.cell? ⟨wr.heap.size, 0, none⟩ = some (.int .i64 D.pend[q].pos) := cell_block HT3.out 0
        have hm1 : W3.cell? ⟨wr.heap.size, 1, none⟩ = some (.slice (sv q).1 (sv q).2.1 (sv q).2.2) := cell_block HT3.out 1
        have hlk3 := HLk.out W3.drew HG3.out.map.drew
        refine wp_region_sched (fun w' => w'.cell? ⟨wr.heap.size, 0, none⟩ = some (.int .i64 D.pend[q].pos) ∧ w'.cell? ⟨wr.heap.size, 1, none⟩ = some (.slice (sv q).1 (sv q).2.1 (sv q).2.2) ∧ (Instr.lookup 156 (.map (some MW)) (.int .i64 D.pend[q].pos) false).run Try.prog w' = .ok (.slice ar k cr) w')
          [11] [.pure 0, .pure 1, .st 2, .pure 3, .pure 4, .st 5, .st 6, .pure 7, .st 8, .ac 9, .ac 10, .ac 11] (by kernel_rfl) (by kernel_rfl) ⟨hm0, hm1, hlk3⟩ ?_
        have HS0 : (fun w' : World => w'.cell? ⟨wr.heap.size, 0, none⟩ = some (.int .i64 D.pend[q].pos) ∧ w'.cell? ⟨wr.heap.size, 1, none⟩ = some (.slice (sv q).1 (sv q).2.1 (sv q).2.2) ∧ (Instr.lookup 156 (.map (some MW)) (.int .i64 D.pend[q].pos) false).run Try.prog w' = .ok (.slice ar k cr) w') W3.drew := ⟨hm0, hm1, hlk3⟩
        (iterate 9 (first | (refine sched_pure (by rfl) ?_; apply Exists.intro; apply Exists.intro; refine ⟨fun w' hS' Kp hK => ?_, ?_⟩; (· (try dsimp only at hS'); go_simp; (repeat (go_ite <;> go_prune <;> (try go_simp))); (all_goals first | exact hK | (refine valUpon_ok ?_; exact hK)))) | (refine sched_st (by rfl) (by assumption) ?_; apply Exists.intro; apply Exists.intro; refine ⟨fun w' hS' Kp hK => ?_, ?_⟩; (· (try dsimp only at hS'); go_simp; (repeat (go_ite <;> go_prune <;> (try go_simp))); (all_goals first | exact hK | (refine valUpon_ok ?_; exact hK))))))
        (refine sched_ac (by rfl) ?_)
        go_wp2_with fail
        have hc3 : Chg [] W3.drew (W3.drew.alloc (.cells #[.slice (sv q).1 (sv q).2.1 (sv q).2.2] 22)) := (Chg.refl _ _).alloc _
        have hq0 := ((hc3.cell (b := wr.heap.size) (o := 0) hT3l (by simp)).1).trans hm0
        have hq1 := ((hc3.cell (b := wr.heap.size) (o := 1) hT3l (by simp)).1).trans hm1
        have HS4 := Lib.hid (And.intro hq0 (And.intro hq1 (HLk.out _ (HG3.out.map.drew.up hc3 (by simp)))))
        clear hc3 hq0 hq1
        (unfold KeepPost; refine ⟨fun _ => HS4.out, ?_⟩)
        (refine sched_ac (by rfl) ?_)
        have HRow := Lib.hid (HG3.out.row D.pend[q].pos |>.imp (fun _ _ _ h => h) (w' := W3.drew) (fun _ _ => rfl))
        have HRow2 := Lib.hid (by have := HRow.out; rwa [HGv.out] at this)
        refine wpList_app1 (w := W3.drew) rfl _ _ 23 rfl 22 22 (Bf D.pend[q].pos) (idxOf (D.pend.take q) D.pend[q].pos) q (.slice ar k cr) (.slice (sv q).1 (sv q).2.1 (sv q).2.2) rfl rfl HRow2.out rfl (encV_one sv q) (.slice none 0 0) 24 Try.underlying23 info_bytes rfl (by rw [HK.out]; omega) (by rw [HK.out]; omega) ?_
        intro v4 w4 B4 hr4 hc4 hB4
        obtain ⟨a4, c4, rfl, -, -⟩ := hr4.form
        have hl4 : (idxOf (D.pend.take q) D.pend[q].pos ++ [q]).length = k + 1 := by rw [List.length_append, HK.out]; rfl
        rw [hl4] at hr4 ⊢
        clear hl4
        have hTB : wr.heap.size ∉ Bf D.pend[q].pos := fun hm => absurd (HBfT.out _ _ hm) (by omega)
        have hMB : MW ∉ Bf D.pend[q].pos := fun hm => (HFr.out _ _ hm).2 rfl
        have hT4 := (hc4.block _ hT3l hTB).trans HT3.out
        have hM4 := HG3.out.map.drew.up hc4 hMB
        have HS5 := Lib.hid (And.intro (cell_block hT4 0) (And.intro (cell_block hT4 1) (HLk.out _ hM4)))
        obtain ⟨w5, hrun, hm5, hc5⟩ := hM4.store Try.underlying3 Try.underlying156 (by unfold maxLen; omega) hwf (.slice a4 (k + 1) c4)
        have hG5 := HG3.out.up (F := []) ((Chg.refl [] W3).drew) (by simp) (by simp) |>.step (p := D.pend[q]) (by simp; omega) (by simpa using hMl3) (by rw [HTl.out]; exact hr4) hc4 hB4 hm5 rfl hc5
        rw [← take_snoc D.pend q hlt] at hG5
        have HG5 := Lib.hid hG5
        have HC5 := Lib.hid (show Chg [] W1 w5 from (HC3.out.drew.step hc4 (fun k hk => .inr (by have := (HFr.out _ _ hk).1; have := HM.out; omega))).step hc5 (fun k hk => .inr (by have := HM.out; simp at hk; omega)))
        have HS6 := Lib.hid (HS3.out.imp (fun _ _ _ h => h) (w' := w5) (fun k hk => by
          have h0 := HB3.out k hk
          have hl := HS3.out.lt k hk
          exact (hc5.block k (Nat.lt_of_lt_of_le hl hc4.size) (by simp; exact h0.2.1)).trans (hc4.block k hl (h0.2.2 _))))
        have HB6 := Lib.hid (show ∀ k' ∈ B4, k' ∈ Bf D.pend[q].pos ∨ W3.heap.size ≤ k' from hB4)
        clear hr4 hc4 hB4 hT4 hM4 hm5 hc5 hG5
        go_wp2_with fail
        (unfold KeepPost; refine ⟨fun _ => HS5.out, ?_⟩)
        (refine sched_ac (by rfl) ?_)
        go_wp2_with fail
        (unfold KeepPost; refine ⟨fun h => absurd h (by decide), ?_⟩)
        (refine NoPanic.normal ?_)
        go_wp2
        go_roundw
        case rel =>
          refine ⟨q + 1, _, _, _, by omega, by go_num, HG5.out, HS6.out, fun k' hk' => ⟨(HB3.out k' hk').1, (HB3.out k' hk').2.1, fun x hx => ?_⟩, HC5.out⟩
          have h0 := (HB3.out k' hk').2.2
          have hx' : k' ∈ (if x = D.pend[q].pos then B4 else Bf x) := hx
          split at hx'
          · rcases HB6.out k' hx' with h | h
            · exact h0 _ h
            · have := HS3.out.lt k' hk'; omega
          · exact h0 _ hx'
        case measure => simp [intOf]; omega
      · have hz : ((k : Int) == 0) = false := by simp; omega
        have HSn1 := Lib.hid (show secsOf (D.pend.take (q + 1)) = secsOf (D.pend.take q) by rw [HSn.out, if_neg (fun e => hk0 (by rw [← HK.out, e]; rfl))])
        go_wp2
        rw [← hWA]
        obtain ⟨W3, hW3⟩ : ∃ W3, W3 = WA := ⟨_, rfl⟩
        rw [← hW3] at HT HGA HSA HCA ⊢
        have HC3 := Lib.hid (HC.out.trans HCA.out)
        have HT3 := Lib.hid HT.out
        have HG3 := Lib.hid HGA.out
        have HS3 := Lib.hid (show Row (fun cs x => cs = [.int .i64 x]) 1 3 Bs W3 (.slice asec (secsOf (D.pend.take q)).length csec) (secsOf (D.pend.take (q + 1))) by rw [HSn1.out]; exact HSA.out)
        have HB3 := Lib.hid HBs.out
        clear hW3 hWA hlkA
        have hT3l := lt_block HT3.out
        have hMl3 := HG3.out.map.lt
        have hm0 : W3.cell? ⟨wr.heap.size, 0, none⟩ = some (.int .i64 D.pend[q].pos) := cell_block HT3.out 0
        have hm1 : W3.cell? ⟨wr.heap.size, 1, none⟩ = some (.slice (sv q).1 (sv q).2.1 (sv q).2.2) := cell_block HT3.out 1
        have hlk3 := HLk.out W3.drew HG3.out.map.drew
        refine wp_region_sched (fun w' => w'.cell? ⟨wr.heap.size, 0, none⟩ = some (.int .i64 D.pend[q].pos) ∧ w'.cell? ⟨wr.heap.size, 1, none⟩ = some (.slice (sv q).1 (sv q).2.1 (sv q).2.2) ∧ (Instr.lookup 156 (.map (some MW)) (.int .i64 D.pend[q].pos) false).run Try.prog w' = .ok (.slice ar k cr) w')
          [11] [.pure 0, .pure 1, .st 2, .pure 3, .pure 4, .st 5, .st 6, .pure 7, .st 8, .ac 9, .ac 10, .ac 11] (by kernel_rfl) (by kernel_rfl) ⟨hm0, hm1, hlk3⟩ ?_
        have HS0 : (fun w' : World => w'.cell? ⟨wr.heap.size, 0, none⟩ = some (.int .i64 D.pend[q].pos) ∧ w'.cell? ⟨wr.heap.size, 1, none⟩ = some (.slice (sv q).1 (sv q).2.1 (sv q).2.2) ∧ (Instr.lookup 156 (.map (some MW)) (.int .i64 D.pend[q].pos) false).run Try.prog w' = .ok (.slice ar k cr) w') W3.drew := ⟨hm0, hm1, hlk3⟩
        (iterate 9 (first | (refine sched_pure (by rfl) ?_; apply Exists.intro; apply Exists.intro; refine ⟨fun w' hS' Kp hK => ?_, ?_⟩; (· (try dsimp only at hS'); go_simp; (repeat (go_ite <;> go_prune <;> (try go_simp))); (all_goals first | exact hK | (refine valUpon_ok ?_; exact hK)))) | (refine sched_st (by rfl) (by assumption) ?_; apply Exists.intro; apply Exists.intro; refine ⟨fun w' hS' Kp hK => ?_, ?_⟩; (· (try dsimp only at hS'); go_simp; (repeat (go_ite <;> go_prune <;> (try go_simp))); (all_goals first | exact hK | (refine valUpon_ok ?_; exact hK))))))
        (refine sched_ac (by rfl) ?_)
        go_wp2_with fail
        have hc3 : Chg [] W3.drew (W3.drew.alloc (.cells #[.slice (sv q).1 (sv q).2.1 (sv q).2.2] 22)) := (Chg.refl _ _).alloc _
        have hq0 := ((hc3.cell (b := wr.heap.size) (o := 0) hT3l (by simp)).1).trans hm0
        have hq1 := ((hc3.cell (b := wr.heap.size) (o := 1) hT3l (by simp)).1).trans hm1
        have HS4 := Lib.hid (And.intro hq0 (And.intro hq1 (HLk.out _ (HG3.out.map.drew.up hc3 (by simp)))))
        clear hc3 hq0 hq1
        (unfold KeepPost; refine ⟨fun _ => HS4.out, ?_⟩)
        (refine sched_ac (by rfl) ?_)
        have HRow := Lib.hid (HG3.out.row D.pend[q].pos |>.imp (fun _ _ _ h => h) (w' := W3.drew) (fun _ _ => rfl))
        have HRow2 := Lib.hid (by have := HRow.out; rwa [HGv.out] at this)
        refine wpList_app1 (w := W3.drew) rfl _ _ 23 rfl 22 22 (Bf D.pend[q].pos) (idxOf (D.pend.take q) D.pend[q].pos) q (.slice ar k cr) (.slice (sv q).1 (sv q).2.1 (sv q).2.2) rfl rfl HRow2.out rfl (encV_one sv q) (.slice none 0 0) 24 Try.underlying23 info_bytes rfl (by rw [HK.out]; omega) (by rw [HK.out]; omega) ?_
        intro v4 w4 B4 hr4 hc4 hB4
        obtain ⟨a4, c4, rfl, -, -⟩ := hr4.form
        have hl4 : (idxOf (D.pend.take q) D.pend[q].pos ++ [q]).length = k + 1 := by rw [List.length_append, HK.out]; rfl
        rw [hl4] at hr4 ⊢
        clear hl4
        have hTB : wr.heap.size ∉ Bf D.pend[q].pos := fun hm => absurd (HBfT.out _ _ hm) (by omega)
        have hMB : MW ∉ Bf D.pend[q].pos := fun hm => (HFr.out _ _ hm).2 rfl
        have hT4 := (hc4.block _ hT3l hTB).trans HT3.out
        have hM4 := HG3.out.map.drew.up hc4 hMB
        have HS5 := Lib.hid (And.intro (cell_block hT4 0) (And.intro (cell_block hT4 1) (HLk.out _ hM4)))
        obtain ⟨w5, hrun, hm5, hc5⟩ := hM4.store Try.underlying3 Try.underlying156 (by unfold maxLen; omega) hwf (.slice a4 (k + 1) c4)
        have hG5 := HG3.out.up (F := []) ((Chg.refl [] W3).drew) (by simp) (by simp) |>.step (p := D.pend[q]) (by simp; omega) (by simpa using hMl3) (by rw [HTl.out]; exact hr4) hc4 hB4 hm5 rfl hc5
        rw [← take_snoc D.pend q hlt] at hG5
        have HG5 := Lib.hid hG5
        have HC5 := Lib.hid (show Chg [] W1 w5 from (HC3.out.drew.step hc4 (fun k hk => .inr (by have := (HFr.out _ _ hk).1; have := HM.out; omega))).step hc5 (fun k hk => .inr (by have := HM.out; simp at hk; omega)))
        have HS6 := Lib.hid (HS3.out.imp (fun _ _ _ h => h) (w' := w5) (fun k hk => by
          have h0 := HB3.out k hk
          have hl := HS3.out.lt k hk
          exact (hc5.block k (Nat.lt_of_lt_of_le hl hc4.size) (by simp; exact h0.2.1)).trans (hc4.block k hl (h0.2.2 _))))
        have HB6 := Lib.hid (show ∀ k' ∈ B4, k' ∈ Bf D.pend[q].pos ∨ W3.heap.size ≤ k' from hB4)
        clear hr4 hc4 hB4 hT4 hM4 hm5 hc5 hG5
        go_wp2_with fail
        (unfold KeepPost; refine ⟨fun _ => HS5.out, ?_⟩)
        (refine sched_ac (by rfl) ?_)
        go_wp2_with fail
        (unfold KeepPost; refine ⟨fun h => absurd h (by decide), ?_⟩)
        (refine NoPanic.normal ?_)
        go_wp2
        go_roundw
        case rel =>
          refine ⟨q + 1, _, _, _, by omega, by go_num, HG5.out, HS6.out, fun k' hk' => ⟨(HB3.out k' hk').1, (HB3.out k' hk').2.1, fun x hx => ?_⟩, HC5.out⟩
          have h0 := (HB3.out k' hk').2.2
          have hx' : k' ∈ (if x = D.pend[q].pos then B4 else Bf x) := hx
          split at hx'
          · rcases HB6.out k' hx' with h | h
            · exact h0 _ h
            · have := HS3.out.lt k' hk'; omega
          · exact h0 _ hx'
        case measure => simp [intOf]; omega
    · obtain rfl : q = D.pend.length := by omega
      obtain ⟨W5, hW5⟩ : ∃ W5, W5 = wr := ⟨_, rfl⟩
      subst hW5
      rw [List.take_length] at hG hs
      have hsl := secsOf_length_le D.pend
      obtain ⟨sn, hsn⟩ : ∃ sn, sn = (secsOf D.pend).length := ⟨_, rfl⟩
      simp only [List.take_length] at hlt ⊢
      rw [← hsn] at hs hsl ⊢
      have HG5 := Lib.hid hG
      have HS5 := Lib.hid hs
      have HBs := Lib.hid hBs
      have HC5 := Lib.hid hchg
      have HSn := Lib.hid hsn
      clear hG hs hBs hchg hlt hsn
      have hsl4 := hsl
      go_wp2_with fail
      refine (sort_calls _ (secsOf D.pend) Bs W5 HS5.out.own (by have := HSn.out; omega)).mono ?_
      rintro e w6 ⟨rfl, ho6, hc6⟩
      rw [secs_sorted (fun p hp => ⟨(HOK.out.2.2 p hp).1, (HOK.out.2.2 p hp).2.1⟩)] at ho6
      have hL : (secsP D).length = sn := by
        have := ho6.rd.form
        obtain ⟨_, _, h9, _⟩ := this
        cases h9; simp
      have HG6 := Lib.hid (HG5.out.up hc6 (fun hm => (HBs.out _ hm).2.1 rfl) (fun x k' hk' hm => (HBs.out _ hm).2.2 x hk'))
      have HC6 := Lib.hid (HC5.out.step hc6 (fun k' hk' => .inr (by have := (HBs.out _ hk').1; have := HM.out; omega)))
      have HO6 := Lib.hid ho6
      have HF1 := Lib.hid h1.lt
      have hF1n := (List.nodup_append.1 hnd).1
      have HFd := Lib.hid (show ∀ k ∈ F1, k ∉ F2 from fun k hk hm => (List.nodup_append.1 hnd).2.2 k hk k hm rfl)
      have HF2 := Lib.hid h2.lt
      have HLk := Lib.hid (fun (W : World) (x : Int) (h : MapI Try.prog 3 W MW D.pend.length g) hx => h.look Try.underlying3 Try.underlying156 (z := .slice none 0 0) (by kernel_rfl) (x := x) hx)
      have HBn := Lib.hid (show ∀ k ∈ Bs, w.heap.size ≤ k from fun k hk => by have := (HBs.out k hk).1; have := HM.out; have := HC1.out.size; omega)
      have hW61 : W1.heap.size ≤ w6.heap.size := HC6.out.size
      have hw1s : w.heap.size ≤ W1.heap.size := HC1.out.size
      have hB6 := (HC6.out.block B hBl (by simp)).trans HB1.out
      have HB6 := Lib.hid hB6
      have HH1 := Lib.hid (show SlOwn bytesSh 22 F1 w6 (.slice a1 D.safe.length c1) D.safe from
        h1.mono ((HC1.out.trans (HC6.out.mono (by simp))).same fun k hk => ⟨h1.lt k hk, by simp; rintro rfl; exact hBF (List.mem_append_left _ hk)⟩))
      have HGo6 := Lib.hid (show ∀ (m : Nat) (hm : m < D.pend.length), SlOwn byte 5 (Gs m) w6 (encV sv m) D.pend[m].data from fun m hm =>
        (HGo.out m hm).1.mono ((HC1.out.trans (HC6.out.mono (by simp))).same fun k hk => ⟨(HGo.out m hm).1.lt k hk, by simp; rintro rfl; exact hBF (List.mem_append_right _ ((HGo.out m hm).2.2 _ hk))⟩))
      clear ho6 hc6 hB6
      go_wp2
      go_loopw [56] (fun i wr => ∃ (p : Nat) (F : List Nat), p ≤ sn ∧ i = .int .i64 p ∧ SlOwn bytesSh 22 F wr (.slice a1 D.safe.length c1) (((secsP D).take p).foldl (crashStep D.pend ch) (0, D.safe)).2 ∧ F.Nodup ∧
        (∀ k ∈ F, k ∈ F1 ∨ ∃ m, m < D.pend.length ∧ k ∈ Gs m ∧ ∃ a ∈ (secsP D).take p, m ∈ idxOf D.pend a) ∧ Chg F1 w6 wr) (fun i _ => sn - (intOf i).toNat)
      case atStart => exact ⟨0, F1, by omega, rfl, HH1.out, hF1n, fun k hk => .inl hk, Chg.refl _ _⟩
      case round =>
        obtain ⟨p, F, hp, rfl, hown, hFn, hFk, hchg⟩ := hrel
        have HGr := Lib.hid (HG6.out.up hchg (fun hm => by have := HF1.out _ hm; have := HM.out; omega) (fun x k' hk' hm => by have := HF1.out _ hm; have := (HG6.out.fresh x k' hk').1; have := HM.out; omega))
        have HBr := Lib.hid ((hchg.block B (lt_block HB6.out) (fun hm => hBF (List.mem_append_left _ hm))).trans HB6.out)
        by_cases hlt : p < sn
        · have hpL : p < (secsP D).length := by omega
          obtain ⟨a, ha⟩ : ∃ a, a = (secsP D)[p] := ⟨_, rfl⟩
          have hmemA : a ∈ secsP D := by rw [ha]; exact List.getElem_mem _
          have haS : a < D.safe.length := List.mem_range.1 (List.mem_filter.1 hmemA).1
          have hk0 : 0 < (idxOf D.pend (a : Nat)).length := by have := (List.mem_filter.1 hmemA).2; simpa using this
          have HT1 := Lib.hid (show (secsP D).take (p + 1) = (secsP D).take p ++ [a] by rw [List.take_succ_eq_append_getElem hpL, ha])
          obtain ⟨bs, os, rfl, hbsB, hbsl, hcs⟩ := (HO6.out.mono (hchg.same fun k hk => ⟨HO6.out.lt k hk, fun hm => by have := HBn.out k hk; have := HF1.out k hm; omega⟩)).rd.cell p (by simpa using hpL)
          have hcs' : wr.cell? ⟨bs, os + p, none⟩ = some (.int .i64 (a : Int)) := by rw [hcs, ha]; simp
          have hfst := crashFold_fst D ch ((secsP D).take p) (0, D.safe) (fun b hb => by have := (List.mem_filter.1 (List.mem_of_mem_take hb)).2; simpa using this)
          have hlenS := crashFold_len D.pend ch ((secsP D).take p) (0, D.safe)
          have hstep : ((secsP D).take (p + 1)).foldl (crashStep D.pend ch) (0, D.safe) = crashStep D.pend ch (((secsP D).take p).foldl (crashStep D.pend ch) (0, D.safe)) a := by rw [HT1.out, List.foldl_append]; rfl
          generalize hst : ((secsP D).take p).foldl (crashStep D.pend ch) (0, D.safe) = st at *
          obtain ⟨nn, sf⟩ := st
          have hnn : nn = p := by have := hfst; simp at this; omega
          subst hnn
          simp only at hlenS hown
          obtain ⟨ar, cr, hgv, -, -⟩ := (HGr.out.row a).form
          have hkl := idxOf_length_le D.pend (a : Nat)
          have hlk := HLk.out wr a HGr.out.map (pos_wf (by omega) (by omega))
          rw [hgv] at hlk
          have hMr := HGr.out.map.lt
          have HHo := Lib.hid hown
          have HHk := Lib.hid hFk
          have HHc := Lib.hid hchg
          have HHg := Lib.hid hgv
          have HSt := Lib.hid hstep
          have HLn := Lib.hid hlenS
          have HLk1 := Lib.hid hlk
          have HAm := Lib.hid hmemA
          have HA := Lib.hid ha
          obtain ⟨k, hk⟩ : ∃ k, k = (idxOf D.pend (a : Nat)).length := ⟨_, rfl⟩
          rw [← hk] at hk0 hkl hlk
          have HK := Lib.hid hk
          clear hown hFk hchg hgv hst hfst hlenS hstep hk hmemA ha hcs
          by_cases hc0 : ch.length = 0
          · have HJ := Lib.hid (show crashJ D.pend ch nn a = 0 by unfold crashJ crashC; rw [if_pos hc0, Nat.zero_mod])
            have hcle : ch.length ≤ 0 := by omega
            have HST2 := Lib.hid (show ((secsP D).take (nn + 1)).foldl (crashStep D.pend ch) (0, D.safe) = (nn + 1, sf) by rw [HSt.out]; unfold crashStep; rw [if_neg (by rw [← HK.out]; omega), if_pos HJ.out])
            clear hc0 hlk
            go_wp2
            go_roundw
            case rel =>
              refine ⟨nn + 1, F, by omega, by go_num, by rw [HST2.out]; exact HHo.out, hFn, fun k hk => ?_, HHc.out⟩
              rcases HHk.out k hk with h | ⟨m, hm, h1, b, hb, h2⟩
              · exact .inl h
              · exact .inr ⟨m, hm, h1, b, by rw [HT1.out]; exact List.mem_append_left _ hb, h2⟩
            case measure => simp [intOf]; omega
          · have hclt : 0 < ch.length := by omega
            have hmod : nn % ch.length < ch.length := Nat.mod_lt _ hclt
            have hwr : Chg F1 w6 wr := HHc.out
            obtain ⟨bc, oc, rfl, hSc, hbc, hcellc⟩ := hch.cell (nn % ch.length) hmod
            have hcellc' : wr.cell? ⟨bc, oc + nn % ch.length, none⟩ = some (.int .u8 ((ch[nn % ch.length]'hmod).toNat : Int)) := by
              have e1 := (hS bc hSc)
              rw [(hwr.cell (by omega) (by exact e1.2.2.2)).1, (HC6.out.cell (by omega) (by simp)).1, (HC1.out.cell hbc (by simpa using e1.2.1)).1]
              exact hcellc
            obtain ⟨c, hc⟩ : ∃ c, c = (ch[nn % ch.length]'hmod).toNat := ⟨_, rfl⟩
            rw [← hc] at hcellc'
            have hc256 : c < 256 := by rw [hc]; exact (ch[nn % ch.length]'hmod).toNat_lt
            have HCc := Lib.hid (show crashC ch nn = c by unfold crashC; rw [if_neg hc0, getD_get hmod, hc])
            have hcw : IntKind.i64.wrap (c : Int) = c := wrap_small (by omega) (by omega)
            have hkw : IntKind.i64.wrap ((k : Int) + 1) = (k : Int) + 1 := wrap_small (by omega) (by omega)
            have HJ := Lib.hid (show crashJ D.pend ch nn a = c % (k + 1) by unfold crashJ; rw [HCc.out, ← HK.out])
            have hjk : c % (k + 1) < k + 1 := Nat.mod_lt _ (by omega)
            have hjm : (c : Int) % ((k : Int) + 1) = ((c % (k + 1) : Nat) : Int) := by simp
            have hjt : (c : Int).tmod ((k : Int) + 1) = ((c % (k + 1) : Nat) : Int) := by rw [Int.tmod_eq_emod_of_nonneg (by omega)]; exact hjm
            have HST2 := Lib.hid (show ((secsP D).take (nn + 1)).foldl (crashStep D.pend ch) (0, D.safe) = (nn + 1, if c % (k + 1) = 0 then sf else sf.set a (datum D.pend ((idxOf D.pend a).getD (c % (k + 1) - 1) 0))) by
              rw [HSt.out]; unfold crashStep; rw [if_neg (by rw [← HK.out]; omega)]; simp only [HJ.out])
            clear hc hc0 hcellc hwr
            have hne0 : ¬ ch.length = 0 := by omega
            have hne1 : ¬ ((k : Int) + 1 = 0) := by omega
            generalize c % (k + 1) = j at *
            have htm : (nn : Int).tmod (ch.length : Int) = ((nn % ch.length : Nat) : Int) := by rw [Int.tmod_eq_emod_of_nonneg (by omega)]; simp
            clear hjm
            generalize nn % ch.length = r at *
            go_wp2
            refine wp_region_sched (fun w' => w'.cell? ⟨bc, oc + r, none⟩ = some (.int .u8 (c : Int)) ∧ (Instr.lookup 156 (.map (some MW)) (.int .i64 (a : Int)) false).run Try.prog w' = .ok (.slice ar k cr) w')
              [] [.pure 0, .pure 1, .pure 2, .pure 3, .pure 4, .pure 5, .st 6, .pure 7, .pure 8, .pure 9, .st 10, .pure 11, .pure 12, .pure 13, .pure 14] (by kernel_rfl) (by kernel_rfl) ⟨hcellc', ?_⟩ ?_
            · have := HLk.out wr.drew a HGr.out.map.drew (pos_wf (by omega) (by omega))
              rw [HHg.out, ← HK.out] at this
              exact this
            have HLw := Lib.hid (by have := HLk.out wr.drew a HGr.out.map.drew (pos_wf (by omega) (by omega)); rwa [HHg.out, ← HK.out] at this)
            have HS0 : (fun w' : World => w'.cell? ⟨bc, oc + r, none⟩ = some (.int .u8 (c : Int)) ∧ (Instr.lookup 156 (.map (some MW)) (.int .i64 (a : Int)) false).run Try.prog w' = .ok (.slice ar k cr) w') wr.drew := ⟨hcellc', HLw.out⟩
            (first | (refine sched_pure (by rfl) ?_; apply Exists.intro; apply Exists.intro; refine ⟨fun w' hS' Kp hK => ?_, ?_⟩; (· (try dsimp only at hS'); go_simp; (repeat (go_ite <;> go_prune <;> (try go_simp))); (all_goals first | exact hK | (refine valUpon_ok ?_; exact hK)))) | (refine sched_st (by rfl) (by assumption) ?_; apply Exists.intro; apply Exists.intro; refine ⟨fun w' hS' Kp hK => ?_, ?_⟩; (· (try dsimp only at hS'); go_simp; (repeat (go_ite <;> go_prune <;> (try go_simp))); (all_goals first | exact hK | (refine valUpon_ok ?_; exact hK)))))
            (first | (refine sched_pure (by rfl) ?_; apply Exists.intro; apply Exists.intro; refine ⟨fun w' hS' Kp hK => ?_, ?_⟩; (· (try dsimp only at hS'); go_simp; (repeat (go_ite <;> go_prune <;> (try go_simp))); (all_goals first | exact hK | (refine valUpon_ok ?_; exact hK)))) | (refine sched_st (by rfl) (by assumption) ?_; apply Exists.intro; apply Exists.intro; refine ⟨fun w' hS' Kp hK => ?_, ?_⟩; (· (try dsimp only at hS'); go_simp; (repeat (go_ite <;> go_prune <;> (try go_simp))); (all_goals first | exact hK | (refine valUpon_ok ?_; exact hK)))))
            (first | (refine sched_pure (by rfl) ?_; apply Exists.intro; apply Exists.intro; refine ⟨fun w' hS' Kp hK => ?_, ?_⟩; (· (try dsimp only at hS'); go_simp; (repeat (go_ite <;> go_prune <;> (try go_simp))); (all_goals first | exact hK | (refine valUpon_ok ?_; exact hK)))) | (refine sched_st (by rfl) (by assumption) ?_; apply Exists.intro; apply Exists.intro; refine ⟨fun w' hS' Kp hK => ?_, ?_⟩; (· (try dsimp only at hS'); go_simp; (repeat (go_ite <;> go_prune <;> (try go_simp))); (all_goals first | exact hK | (refine valUpon_ok ?_; exact hK)))))
            (first | (refine sched_pure (by rfl) ?_; apply Exists.intro; apply Exists.intro; refine ⟨fun w' hS' Kp hK => ?_, ?_⟩; (· (try dsimp only at hS'); go_simp; (repeat (go_ite <;> go_prune <;> (try go_simp))); (all_goals first | exact hK | (refine valUpon_ok ?_; exact hK)))) | (refine sched_st (by rfl) (by assumption) ?_; apply Exists.intro; apply Exists.intro; refine ⟨fun w' hS' Kp hK => ?_, ?_⟩; (· (try dsimp only at hS'); go_simp; (repeat (go_ite <;> go_prune <;> (try go_simp))); (all_goals first | exact hK | (refine valUpon_ok ?_; exact hK)))))
            (first | (refine sched_pure (by rfl) ?_; apply Exists.intro; apply Exists.intro; refine ⟨fun w' hS' Kp hK => ?_, ?_⟩; (· (try dsimp only at hS'); go_simp; (repeat (go_ite <;> go_prune <;> (try go_simp))); (all_goals first | exact hK | (refine valUpon_ok ?_; exact hK)))) | (refine sched_st (by rfl) (by assumption) ?_; apply Exists.intro; apply Exists.intro; refine ⟨fun w' hS' Kp hK => ?_, ?_⟩; (· (try dsimp only at hS'); go_simp; (repeat (go_ite <;> go_prune <;> (try go_simp))); (all_goals first | exact hK | (refine valUpon_ok ?_; exact hK)))))
            (first | (refine sched_pure (by rfl) ?_; apply Exists.intro; apply Exists.intro; refine ⟨fun w' hS' Kp hK => ?_, ?_⟩; (· (try dsimp only at hS'); go_simp; (repeat (go_ite <;> go_prune <;> (try go_simp))); (all_goals first | exact hK | (refine valUpon_ok ?_; exact hK)))) | (refine sched_st (by rfl) (by assumption) ?_; apply Exists.intro; apply Exists.intro; refine ⟨fun w' hS' Kp hK => ?_, ?_⟩; (· (try dsimp only at hS'); go_simp; (repeat (go_ite <;> go_prune <;> (try go_simp))); (all_goals first | exact hK | (refine valUpon_ok ?_; exact hK)))))
            (first | (refine sched_pure (by rfl) ?_; apply Exists.intro; apply Exists.intro; refine ⟨fun w' hS' Kp hK => ?_, ?_⟩; (· (try dsimp only at hS'); go_simp; (repeat (go_ite <;> go_prune <;> (try go_simp))); (all_goals first | exact hK | (refine valUpon_ok ?_; exact hK)))) | (refine sched_st (by rfl) (by assumption) ?_; apply Exists.intro; apply Exists.intro; refine ⟨fun w' hS' Kp hK => ?_, ?_⟩; (· (try dsimp only at hS'); go_simp; (repeat (go_ite <;> go_prune <;> (try go_simp))); (all_goals first | exact hK | (refine valUpon_ok ?_; exact hK)))))
            (first | (refine sched_pure (by rfl) ?_; apply Exists.intro; apply Exists.intro; refine ⟨fun w' hS' Kp hK => ?_, ?_⟩; (· (try dsimp only at hS'); go_simp; (repeat (go_ite <;> go_prune <;> (try go_simp))); (all_goals first | exact hK | (refine valUpon_ok ?_; exact hK)))) | (refine sched_st (by rfl) (by assumption) ?_; apply Exists.intro; apply Exists.intro; refine ⟨fun w' hS' Kp hK => ?_, ?_⟩; (· (try dsimp only at hS'); go_simp; (repeat (go_ite <;> go_prune <;> (try go_simp))); (all_goals first | exact hK | (refine valUpon_ok ?_; exact hK)))))
            (first | (refine sched_pure (by rfl) ?_; apply Exists.intro; apply Exists.intro; refine ⟨fun w' hS' Kp hK => ?_, ?_⟩; (· (try dsimp only at hS'); go_simp; (repeat (go_ite <;> go_prune <;> (try go_simp))); (all_goals first | exact hK | (refine valUpon_ok ?_; exact hK)))) | (refine sched_st (by rfl) (by assumption) ?_; apply Exists.intro; apply Exists.intro; refine ⟨fun w' hS' Kp hK => ?_, ?_⟩; (· (try dsimp only at hS'); go_simp; (repeat (go_ite <;> go_prune <;> (try go_simp))); (all_goals first | exact hK | (refine valUpon_ok ?_; exact hK)))))
            (first | (refine sched_pure (by rfl) ?_; apply Exists.intro; apply Exists.intro; refine ⟨fun w' hS' Kp hK => ?_, ?_⟩; (· (try dsimp only at hS'); go_simp; (repeat (go_ite <;> go_prune <;> (try go_simp))); (all_goals first | exact hK | (refine valUpon_ok ?_; exact hK)))) | (refine sched_st (by rfl) (by assumption) ?_; apply Exists.intro; apply Exists.intro; refine ⟨fun w' hS' Kp hK => ?_, ?_⟩; (· (try dsimp only at hS'); go_simp; (repeat (go_ite <;> go_prune <;> (try go_simp))); (all_goals first | exact hK | (refine valUpon_ok ?_; exact hK)))))
            (first | (refine sched_pure (by rfl) ?_; apply Exists.intro; apply Exists.intro; refine ⟨fun w' hS' Kp hK => ?_, ?_⟩; (· (try dsimp only at hS'); go_simp; (repeat (go_ite <;> go_prune <;> (try go_simp))); (all_goals first | exact hK | (refine valUpon_ok ?_; exact hK)))) | (refine sched_st (by rfl) (by assumption) ?_; apply Exists.intro; apply Exists.intro; refine ⟨fun w' hS' Kp hK => ?_, ?_⟩; (· (try dsimp only at hS'); go_simp; (repeat (go_ite <;> go_prune <;> (try go_simp))); (all_goals first | exact hK | (refine valUpon_ok ?_; exact hK)))))
            (first | (refine sched_pure (by rfl) ?_; apply Exists.intro; apply Exists.intro; refine ⟨fun w' hS' Kp hK => ?_, ?_⟩; (· (try dsimp only at hS'); go_simp; (repeat (go_ite <;> go_prune <;> (try go_simp))); (all_goals first | exact hK | (refine valUpon_ok ?_; exact hK)))) | (refine sched_st (by rfl) (by assumption) ?_; apply Exists.intro; apply Exists.intro; refine ⟨fun w' hS' Kp hK => ?_, ?_⟩; (· (try dsimp only at hS'); go_simp; (repeat (go_ite <;> go_prune <;> (try go_simp))); (all_goals first | exact hK | (refine valUpon_ok ?_; exact hK)))))
            (first | (refine sched_pure (by rfl) ?_; apply Exists.intro; apply Exists.intro; refine ⟨fun w' hS' Kp hK => ?_, ?_⟩; (· (try dsimp only at hS'); go_simp; (repeat (go_ite <;> go_prune <;> (try go_simp))); (all_goals first | exact hK | (refine valUpon_ok ?_; exact hK)))) | (refine sched_st (by rfl) (by assumption) ?_; apply Exists.intro; apply Exists.intro; refine ⟨fun w' hS' Kp hK => ?_, ?_⟩; (· (try dsimp only at hS'); go_simp; (repeat (go_ite <;> go_prune <;> (try go_simp))); (all_goals first | exact hK | (refine valUpon_ok ?_; exact hK)))))
            (first | (refine sched_pure (by rfl) ?_; apply Exists.intro; apply Exists.intro; refine ⟨fun w' hS' Kp hK => ?_, ?_⟩; (· (try dsimp only at hS'); go_simp; (repeat (go_ite <;> go_prune <;> (try go_simp))); (all_goals first | exact hK | (refine valUpon_ok ?_; exact hK)))) | (refine sched_st (by rfl) (by assumption) ?_; apply Exists.intro; apply Exists.intro; refine ⟨fun w' hS' Kp hK => ?_, ?_⟩; (· (try dsimp only at hS'); go_simp; (repeat (go_ite <;> go_prune <;> (try go_simp))); (all_goals first | exact hK | (refine valUpon_ok ?_; exact hK)))))
            (first | (refine sched_pure (by rfl) ?_; apply Exists.intro; apply Exists.intro; refine ⟨fun w' hS' Kp hK => ?_, ?_⟩; (· (try dsimp only at hS'); go_simp; (repeat (go_ite <;> go_prune <;> (try go_simp))); (all_goals first | exact hK | (refine valUpon_ok ?_; exact hK)))) | (refine sched_st (by rfl) (by assumption) ?_; apply Exists.intro; apply Exists.intro; refine ⟨fun w' hS' Kp hK => ?_, ?_⟩; (· (try dsimp only at hS'); go_simp; (repeat (go_ite <;> go_prune <;> (try go_simp))); (all_goals first | exact hK | (refine valUpon_ok ?_; exact hK)))))
            (refine NoPanic.normal ?_)
            rcases Nat.eq_zero_or_pos j with hj | hj
            · have HST3 := Lib.hid (show ((secsP D).take (nn + 1)).foldl (crashStep D.pend ch) (0, D.safe) = (nn + 1, sf) by rw [HST2.out, if_pos hj])
              have hj0 : j ≤ 0 := by omega
              clear hj
              go_wp2
              go_roundw
              case rel =>
                refine ⟨nn + 1, F, by omega, by go_num, by rw [HST3.out]; exact HHo.out.drewN 1, hFn, fun k hk => ?_, HHc.out.drew⟩
                rcases HHk.out k hk with h | ⟨m, hm, h1, b, hb, h2⟩
                · exact .inl h
                · exact .inr ⟨m, hm, h1, b, by rw [HT1.out]; exact List.mem_append_left _ hb, h2⟩
              case measure => simp [intOf]; omega
            · obtain ⟨m, rfl⟩ : ∃ m, j = m + 1 := ⟨j - 1, by omega⟩
              have hwm : IntKind.i64.wrap (m : Int) = m := wrap_small (by omega) (by omega)
              have hml : m < (idxOf D.pend (a : Nat)).length := by rw [← HK.out]; omega
              obtain ⟨mi, hmi⟩ : ∃ mi, mi = (idxOf D.pend (a : Nat))[m] := ⟨_, rfl⟩
              have hmem : mi ∈ idxOf D.pend (a : Nat) := by rw [hmi]; exact List.getElem_mem _
              obtain ⟨hmlt, hmpos⟩ := idxOf_lt hmem
              have HST3 := Lib.hid (show ((secsP D).take (nn + 1)).foldl (crashStep D.pend ch) (0, D.safe) = (nn + 1, sf.set a D.pend[mi].data) by
                rw [HST2.out, if_neg (by omega), Nat.add_sub_cancel, List.getD_eq_getElem?_getD, List.getElem?_eq_getElem hml, Option.getD_some, ← hmi, datum_eq hmlt])
              have hrow := (HGr.out.row a)
              rw [HHg.out] at hrow
              obtain ⟨br, orr, rfl, -, hbr, hcr⟩ := (hrow.own (h1 := encV_one sv)).rd.cell m hml
              rw [← hmi] at hcr
              have hlenS := HLn.out
              obtain ⟨b1, hb1F, ha1, hb1l, hst1⟩ := HHo.out.storeE a (by omega)
              cases ha1
              obtain ⟨⟨q7, hq7⟩, hz7⟩ := hst1 0 (by decide)
              simp only [bytesSh_sz, Nat.mul_one, Nat.add_zero] at hq7 hz7
              have hv0 : wr.cell? ⟨B, 2, none⟩ = some (.slice (some ⟨b1, 0, none⟩) D.safe.length c1) := cell_block HBr.out 2
              have hdis : ∀ k ∈ Gs mi, k ∉ F := fun k hk hm => by
                rcases HHk.out k hm with h | ⟨m', hm', h1, b, hb, h2⟩
                · exact HFd.out k h ((HGo.out mi hmlt).2.2 k hk)
                · obtain ⟨_, hp'⟩ := idxOf_lt h2
                  have hne : mi ≠ m' := fun e => by
                    subst e
                    have : (b : Int) = a := hp'.symm.trans hmpos
                    have hba : b = a := by omega
                    subst hba
                    have hnd3 : (secsP D).Nodup := (List.Pairwise.filter _ List.pairwise_lt_range).imp fun h => Nat.ne_of_lt h
                    have := hnd3.sublist (List.take_sublist (nn + 1) _)
                    rw [HT1.out] at this
                    exact (List.nodup_append.1 this).2.2 b hb b (by simp) rfl
                  exact HGd.out mi m' hmlt hm' hne k hk h1
              obtain ⟨F', k1, k2, k3, _⟩ := HHo.out.setE (G := Gs mi) (cs := [encV sv mi]) (x := D.pend[mi].data) a (by omega) ⟨_, rfl, ((HGo6.out mi hmlt).mono (HHc.out.same fun k hk => ⟨(HGo6.out mi hmlt).lt k hk, fun hm => HFd.out k hm ((HGo.out mi hmlt).2.2 k hk)⟩))⟩ (fun hm => hdis _ hm hb1F) hFn (HGo.out mi hmlt).2.1 hdis
              have K1 := Lib.hid (show SlOwn bytesSh 22 F' (wr.setCell ⟨b1, a, none⟩ (encV sv mi)) (.slice (some ⟨b1, 0, none⟩) D.safe.length c1) (sf.set a D.pend[mi].data) by simpa [bytesSh_sz, putCells] using k1)
              have K3 := Lib.hid k3
              have HMi := Lib.hid hmem
              have HMl := Lib.hid hmlt
              have hb1F1 : b1 ∈ F1 := by
                obtain ⟨b', h0, h3, _⟩ := HH1.out.storeE a haS
                cases h3; exact h0
              clear k1 k3 hdis hst1 hlenS hmi hmem hmpos hrow hj
              have hcast : ((m + 1 : Nat) : Int) = (m : Int) + 1 := by omega
              rw [hcast]
              clear hcast
              go_wp2
              refine wp_region_sched (fun w' => w'.cell? ⟨B, 2, none⟩ = some (.slice (some ⟨b1, 0, none⟩) D.safe.length c1) ∧ w'.cell? ⟨br, orr + m, none⟩ = some (encV sv mi) ∧ (Instr.lookup 156 (.map (some MW)) (.int .i64 (a : Int)) false).run Try.prog w' = .ok (.slice (some ⟨br, orr, none⟩) k cr) w')
                [14] [.pure 0, .pure 1, .pure 2, .pure 3, .st 4, .pure 5, .pure 6, .pure 7, .st 8, .pure 9, .pure 10, .pure 11, .st 12, .pure 13, .ac 14] (by kernel_rfl) (by kernel_rfl) ⟨hv0, hcr, ?_⟩ ?_
              · have := HLk.out (wr.drewN 2) a (HGr.out.map.drewN 2) (pos_wf (by omega) (by omega))
                rw [HHg.out, ← HK.out] at this
                exact this
              have HLw2 := Lib.hid (by have := HLk.out (wr.drewN 2) a (HGr.out.map.drewN 2) (pos_wf (by omega) (by omega)); rwa [HHg.out, ← HK.out] at this)
              have HS2 : (fun w' : World => w'.cell? ⟨B, 2, none⟩ = some (.slice (some ⟨b1, 0, none⟩) D.safe.length c1) ∧ w'.cell? ⟨br, orr + m, none⟩ = some (encV sv mi) ∧ (Instr.lookup 156 (.map (some MW)) (.int .i64 (a : Int)) false).run Try.prog w' = .ok (.slice (some ⟨br, orr, none⟩) k cr) w') (wr.drewN 2) := ⟨hv0, hcr, HLw2.out⟩
              have hf1 : encV sv mi = .slice (sv mi).1 (sv mi).2.1 (sv mi).2.2 := rfl
              (first | (refine sched_pure (by rfl) ?_; apply Exists.intro; apply Exists.intro; refine ⟨fun w' hS' Kp hK => ?_, ?_⟩; (· (try dsimp only at hS'); go_simp; (repeat (go_ite <;> go_prune <;> (try go_simp))); (all_goals first | exact hK | (refine valUpon_ok ?_; exact hK)))) | (refine sched_st (by rfl) (by assumption) ?_; apply Exists.intro; apply Exists.intro; refine ⟨fun w' hS' Kp hK => ?_, ?_⟩; (· (try dsimp only at hS'); go_simp; (repeat (go_ite <;> go_prune <;> (try go_simp))); (all_goals first | exact hK | (refine valUpon_ok ?_; exact hK)))))
              (first | (refine sched_pure (by rfl) ?_; apply Exists.intro; apply Exists.intro; refine ⟨fun w' hS' Kp hK => ?_, ?_⟩; (· (try dsimp only at hS'); go_simp; (repeat (go_ite <;> go_prune <;> (try go_simp))); (all_goals first | exact hK | (refine valUpon_ok ?_; exact hK)))) | (refine sched_st (by rfl) (by assumption) ?_; apply Exists.intro; apply Exists.intro; refine ⟨fun w' hS' Kp hK => ?_, ?_⟩; (· (try dsimp only at hS'); go_simp; (repeat (go_ite <;> go_prune <;> (try go_simp))); (all_goals first | exact hK | (refine valUpon_ok ?_; exact hK)))))
              (first | (refine sched_pure (by rfl) ?_; apply Exists.intro; apply Exists.intro; refine ⟨fun w' hS' Kp hK => ?_, ?_⟩; (· (try dsimp only at hS'); go_simp; (repeat (go_ite <;> go_prune <;> (try go_simp))); (all_goals first | exact hK | (refine valUpon_ok ?_; exact hK)))) | (refine sched_st (by rfl) (by assumption) ?_; apply Exists.intro; apply Exists.intro; refine ⟨fun w' hS' Kp hK => ?_, ?_⟩; (· (try dsimp only at hS'); go_simp; (repeat (go_ite <;> go_prune <;> (try go_simp))); (all_goals first | exact hK | (refine valUpon_ok ?_; exact hK)))))
              (first | (refine sched_pure (by rfl) ?_; apply Exists.intro; apply Exists.intro; refine ⟨fun w' hS' Kp hK => ?_, ?_⟩; (· (try dsimp only at hS'); go_simp; (repeat (go_ite <;> go_prune <;> (try go_simp))); (all_goals first | exact hK | (refine valUpon_ok ?_; exact hK)))) | (refine sched_st (by rfl) (by assumption) ?_; apply Exists.intro; apply Exists.intro; refine ⟨fun w' hS' Kp hK => ?_, ?_⟩; (· (try dsimp only at hS'); go_simp; (repeat (go_ite <;> go_prune <;> (try go_simp))); (all_goals first | exact hK | (refine valUpon_ok ?_; exact hK)))))
              (first | (refine sched_pure (by rfl) ?_; apply Exists.intro; apply Exists.intro; refine ⟨fun w' hS' Kp hK => ?_, ?_⟩; (· (try dsimp only at hS'); go_simp; (repeat (go_ite <;> go_prune <;> (try go_simp))); (all_goals first | exact hK | (refine valUpon_ok ?_; exact hK)))) | (refine sched_st (by rfl) (by assumption) ?_; apply Exists.intro; apply Exists.intro; refine ⟨fun w' hS' Kp hK => ?_, ?_⟩; (· (try dsimp only at hS'); go_simp; (repeat (go_ite <;> go_prune <;> (try go_simp))); (all_goals first | exact hK | (refine valUpon_ok ?_; exact hK)))))
              (first | (refine sched_pure (by rfl) ?_; apply Exists.intro; apply Exists.intro; refine ⟨fun w' hS' Kp hK => ?_, ?_⟩; (· (try dsimp only at hS'); go_simp; (repeat (go_ite <;> go_prune <;> (try go_simp))); (all_goals first | exact hK | (refine valUpon_ok ?_; exact hK)))) | (refine sched_st (by rfl) (by assumption) ?_; apply Exists.intro; apply Exists.intro; refine ⟨fun w' hS' Kp hK => ?_, ?_⟩; (· (try dsimp only at hS'); go_simp; (repeat (go_ite <;> go_prune <;> (try go_simp))); (all_goals first | exact hK | (refine valUpon_ok ?_; exact hK)))))
              (first | (refine sched_pure (by rfl) ?_; apply Exists.intro; apply Exists.intro; refine ⟨fun w' hS' Kp hK => ?_, ?_⟩; (· (try dsimp only at hS'); go_simp; (repeat (go_ite <;> go_prune <;> (try go_simp))); (all_goals first | exact hK | (refine valUpon_ok ?_; exact hK)))) | (refine sched_st (by rfl) (by assumption) ?_; apply Exists.intro; apply Exists.intro; refine ⟨fun w' hS' Kp hK => ?_, ?_⟩; (· (try dsimp only at hS'); go_simp; (repeat (go_ite <;> go_prune <;> (try go_simp))); (all_goals first | exact hK | (refine valUpon_ok ?_; exact hK)))))
              (first | (refine sched_pure (by rfl) ?_; apply Exists.intro; apply Exists.intro; refine ⟨fun w' hS' Kp hK => ?_, ?_⟩; (· (try dsimp only at hS'); go_simp; (repeat (go_ite <;> go_prune <;> (try go_simp))); (all_goals first | exact hK | (refine valUpon_ok ?_; exact hK)))) | (refine sched_st (by rfl) (by assumption) ?_; apply Exists.intro; apply Exists.intro; refine ⟨fun w' hS' Kp hK => ?_, ?_⟩; (· (try dsimp only at hS'); go_simp; (repeat (go_ite <;> go_prune <;> (try go_simp))); (all_goals first | exact hK | (refine valUpon_ok ?_; exact hK)))))
              (first | (refine sched_pure (by rfl) ?_; apply Exists.intro; apply Exists.intro; refine ⟨fun w' hS' Kp hK => ?_, ?_⟩; (· (try dsimp only at hS'); go_simp; (repeat (go_ite <;> go_prune <;> (try go_simp))); (all_goals first | exact hK | (refine valUpon_ok ?_; exact hK)))) | (refine sched_st (by rfl) (by assumption) ?_; apply Exists.intro; apply Exists.intro; refine ⟨fun w' hS' Kp hK => ?_, ?_⟩; (· (try dsimp only at hS'); go_simp; (repeat (go_ite <;> go_prune <;> (try go_simp))); (all_goals first | exact hK | (refine valUpon_ok ?_; exact hK)))))
              (first | (refine sched_pure (by rfl) ?_; apply Exists.intro; apply Exists.intro; refine ⟨fun w' hS' Kp hK => ?_, ?_⟩; (· (try dsimp only at hS'); go_simp; (repeat (go_ite <;> go_prune <;> (try go_simp))); (all_goals first | exact hK | (refine valUpon_ok ?_; exact hK)))) | (refine sched_st (by rfl) (by assumption) ?_; apply Exists.intro; apply Exists.intro; refine ⟨fun w' hS' Kp hK => ?_, ?_⟩; (· (try dsimp only at hS'); go_simp; (repeat (go_ite <;> go_prune <;> (try go_simp))); (all_goals first | exact hK | (refine valUpon_ok ?_; exact hK)))))
              (first | (refine sched_pure (by rfl) ?_; apply Exists.intro; apply Exists.intro; refine ⟨fun w' hS' Kp hK => ?_, ?_⟩; (· (try dsimp only at hS'); go_simp; (repeat (go_ite <;> go_prune <;> (try go_simp))); (all_goals first | exact hK | (refine valUpon_ok ?_; exact hK)))) | (refine sched_st (by rfl) (by assumption) ?_; apply Exists.intro; apply Exists.intro; refine ⟨fun w' hS' Kp hK => ?_, ?_⟩; (· (try dsimp only at hS'); go_simp; (repeat (go_ite <;> go_prune <;> (try go_simp))); (all_goals first | exact hK | (refine valUpon_ok ?_; exact hK)))))
              (first | (refine sched_pure (by rfl) ?_; apply Exists.intro; apply Exists.intro; refine ⟨fun w' hS' Kp hK => ?_, ?_⟩; (· (try dsimp only at hS'); go_simp; (repeat (go_ite <;> go_prune <;> (try go_simp))); (all_goals first | exact hK | (refine valUpon_ok ?_; exact hK)))) | (refine sched_st (by rfl) (by assumption) ?_; apply Exists.intro; apply Exists.intro; refine ⟨fun w' hS' Kp hK => ?_, ?_⟩; (· (try dsimp only at hS'); go_simp; (repeat (go_ite <;> go_prune <;> (try go_simp))); (all_goals first | exact hK | (refine valUpon_ok ?_; exact hK)))))
              (first | (refine sched_pure (by rfl) ?_; apply Exists.intro; apply Exists.intro; refine ⟨fun w' hS' Kp hK => ?_, ?_⟩; (· (try dsimp only at hS'); go_simp; (repeat (go_ite <;> go_prune <;> (try go_simp))); (all_goals first | exact hK | (refine valUpon_ok ?_; exact hK)))) | (refine sched_st (by rfl) (by assumption) ?_; apply Exists.intro; apply Exists.intro; refine ⟨fun w' hS' Kp hK => ?_, ?_⟩; (· (try dsimp only at hS'); go_simp; (repeat (go_ite <;> go_prune <;> (try go_simp))); (all_goals first | exact hK | (refine valUpon_ok ?_; exact hK)))))
              (first | (refine sched_pure (by rfl) ?_; apply Exists.intro; apply Exists.intro; refine ⟨fun w' hS' Kp hK => ?_, ?_⟩; (· (try dsimp only at hS'); go_simp; (repeat (go_ite <;> go_prune <;> (try go_simp))); (all_goals first | exact hK | (refine valUpon_ok ?_; exact hK)))) | (refine sched_st (by rfl) (by assumption) ?_; apply Exists.intro; apply Exists.intro; refine ⟨fun w' hS' Kp hK => ?_, ?_⟩; (· (try dsimp only at hS'); go_simp; (repeat (go_ite <;> go_prune <;> (try go_simp))); (all_goals first | exact hK | (refine valUpon_ok ?_; exact hK)))))
              (refine sched_ac (by rfl) ?_)
              go_wp2_with fail
              (unfold KeepPost; refine ⟨fun h => absurd h (by decide), ?_⟩)
              (refine NoPanic.normal ?_)
              go_wp2
              go_roundw
              case rel =>
                refine ⟨nn + 1, F', by omega, by go_num, by rw [HST3.out]; exact K1.out.mono (fun _ _ => rfl), k2, fun k hk => ?_, ((HHc.out.setCell (p := ⟨b1, a, none⟩) (.inl hb1F1) _).drewN 2)⟩
                rcases K3.out k hk with h | h
                · rcases HHk.out k h with h | ⟨m, hm, h1, b, hb, h2⟩
                  · exact .inl h
                  · exact .inr ⟨m, hm, h1, b, by rw [HT1.out]; exact List.mem_append_left _ hb, h2⟩
                · exact .inr ⟨mi, hmlt, h, a, by rw [HT1.out]; simp, HMi.out⟩
              case measure => simp [intOf]; omega
        · obtain rfl : p = sn := by omega
          have hfin : (crashD D ch).safe = (((secsP D).take p).foldl (crashStep D.pend ch) (0, D.safe)).2 := by rw [crashD_secs, List.take_of_length_le (by omega)]
          rw [← hfin] at hown
          have hMB : MapI Try.prog 3 wr M n f := by
            have := (hmap.up HC1.out (by simp; exact fun e => hBM e.symm)).up HC6.out (by simp)
            exact this.up hchg (fun hm => hMF (List.mem_append_left _ hm))
          have hb3 := HBr.out
          have hbB3 : wr.cell? ⟨B, 3, none⟩ = some (.slice a2 D.pend.length c2) := cell_block hb3 3
          have hbB4 : wr.cell? ⟨B, 4, none⟩ = some (.map (some M)) := cell_block hb3 4
          have hbf := free_block hb3 3
          have hbl := lt_block hb3
          have hMF1 : M ∉ F1 := fun hm => hMF (List.mem_append_left _ hm)
          obtain ⟨WB, hWB⟩ : ∃ WB : World, WB = wr.setCell ⟨B, 3, none⟩ (.slice none 0 0) := ⟨_, rfl⟩
          have hCB : Chg [B] wr WB := by rw [hWB]; exact (Chg.refl _ _).setCell (.inl (by simp)) _
          have hBB := block_set hb3 3 (.slice none 0 0)
          rw [← hWB] at hBB
          obtain ⟨w8, hrun, hm8, hc8⟩ := (hMB.up hCB (by simp; exact fun e => hBM e.symm)).clear Try.underlying86 0
          have hB8 := (hc8.block B (lt_block hBB) (by simp; exact hBM)).trans hBB
          have hFF : ∀ k ∈ F, k ∈ F1 ∨ k ∈ F2 := fun k hk => by
            rcases hFk k hk with h | ⟨m, hm, h1, _⟩
            · exact .inl h
            · exact .inr ((HGo.out m hm).2.2 k h1)
          have hBnF : B ∉ F := fun hm => hBF (List.mem_append.2 (hFF B hm))
          have hMnF : M ∉ F := fun hm => hMF (List.mem_append.2 (hFF M hm))
          have hO8 : SlOwn bytesSh 22 F w8 (.slice a1 D.safe.length c1) (crashD D ch).safe := (hown.mono (hCB.same fun k hk => ⟨hown.lt k hk, fun hm => hBnF (by simp at hm; exact hm ▸ hk)⟩)).mono (hc8.same fun k hk => ⟨Nat.lt_of_lt_of_le (hown.lt k hk) hCB.size, fun hm => hMnF (by simp at hm; exact hm ▸ hk)⟩)
          have hC8 : Chg (B :: M :: F1) w w8 := (((HC1.out.mono (by simp)).trans (HC6.out.mono (by simp))).trans (hchg.mono (fun b hb _ => by simp [hb]))).trans ((hCB.mono (by simp)).trans (hc8.mono (by simp)))
          have hb80 : w8.cell? ⟨B, 0, none⟩ = some (.int .i32 1) := cell_block hB8 0
          have hb8f := free_block hB8 0
          have H8 := Lib.hid hB8
          have HO8 := Lib.hid hO8
          have HC8 := Lib.hid hC8
          have HFF := Lib.hid hFF
          rw [hWB] at hrun
          clear hWB hCB hBB hm8 hc8 hB8 hO8 hC8 hb3 hfin hown hMB hFF hFk hchg
          go_wp2
          refine leaves_cons (f := 84) (args := #[.pointer (some ⟨B, 0, none⟩)]) (by simp) (by simp [go_sem]) ?_
          refine (unlock_deferred muLib ⟨B, 0, none⟩ .returning _ hb80 hb8f).mono ?_
          rintro e u' w'' ⟨rfl, rfl, rfl⟩
          have hB9 := block_set H8.out 0 (.int .i32 0)
          exact ⟨_, results_none rfl _ _ _, rfl, F, hB9, HO8.out.far (p := ⟨B, 0, none⟩) hBnF _, hFn, HFF.out, HC8.out.setCell (.inl (by simp)) _⟩
end Go.Proofs.Ytjolhaefnloaoaa
