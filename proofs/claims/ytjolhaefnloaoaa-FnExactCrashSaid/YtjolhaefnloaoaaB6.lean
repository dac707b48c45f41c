/- The reference's pages: read from bytes, read from a disk. -/
import Derived.Test.YtjolhaefnloaoaaB5
import Derived.Test.YtjolhaefnloaoaaL6
import Derived.Deep.RegionHeld3
namespace Go.Proofs.Ytjolhaefnloaoaa
open Go.RowKit Sh

theorem getD_get {l : List UInt8} {i : Nat} (h : i < l.length) : l.getD i 0 = l[i] := by simp [List.getD_eq_getElem?_getD, h]
theorem part_length {l : List UInt8} {i j : Nat} (hij : i ≤ j) (hj : j ≤ l.length) : ((l.take j).drop i).length = j - i := by simp; omega

set_option maxRecDepth 100000 in
set_option maxHeartbeats 2000000 in
theorem spec_DecodePage_calls (id : Int) (v : Value) (b : List UInt8) (S : Nat → Prop) (w : World) (h : SlRd byte S w v b) (hS : ∀ b, S b → b < w.heap.size) :
    Calls Try.prog 97 #[.int .i64 id, v] w fun e w' => ∃ v', e = .returned (.tuple #[.int .i64 (kindR (decP id b) : Nat), v', .bool (decP id b).isSome]) ∧ SlRd byte (fun k => k < w'.heap.size) w' v' (bodyR (decP id b)) ∧ Chg [] w w' := by
  obtain ⟨a, c, rfl, hc1, hc2⟩ := h.form
  have hbd := h.bound
  by_cases hl : b.length = 256
  · obtain ⟨bb, bo, rfl⟩ := h.addr (by omega)
    have hc10 : ¬ c = 10 := by omega
    have hc16 : ¬ c = 16 := by omega
    have hne : ((b.length : Int) != 256) = false := by simp [hl]
    have hs1 := h.sub 10 12 (by omega) (by omega)
    simp only [byte_sz, Nat.mul_one] at hs1
    have HL := Lib.hid hl
    have h0 := Lib.hid h
    have hc256 : 256 ≤ c := by omega
    have hb256 : 256 ≤ b.length := by omega
    clear hl
    go_enter Try.func97, Try.ntmps97
    go_wp2_with fail
    refine (spec_l2Low_calls _ _ S _ (hs1.up hS ((Chg.refl [] w).alloc _)) (by rw [part_length (by omega) (by omega)]; omega)).mono ?_
    rintro e w1 ⟨rfl, rfl⟩
    have HN := Lib.hid (show lowB ((b.take 12).drop 10) = sizeOf_ b from rfl)
    rw [HN.out]
    generalize hn : sizeOf_ b = n
    have HNn := Lib.hid hn
    clear hs1 hn HN
    have hS' : ∀ b, S b → b < ((w.alloc (.cells #[] 5)).drew).heap.size := fun b hb => by have := hS b hb; simp; omega
    have HS' := Lib.hid hS'; clear hS'
    by_cases hn240 : n ≤ 240
    · have hs2 := h.sub 16 (16 + n) (by omega) (by omega)
      simp only [byte_sz, Nat.mul_one] at hs2
      have HBody := Lib.hid (show (b.take (16 + n)).drop 16 = bodyOf b (sizeOf_ b) by rw [HNn.out]; rfl)
      rw [HBody.out] at hs2
      have HBb := Lib.hid (show bodyOf b n = bodyOf b (sizeOf_ b) by rw [HNn.out])
      have HBl := Lib.hid (show (bodyOf b (sizeOf_ b)).length = n by rw [← HBody.out, part_length (by omega) (by omega)]; omega)
      generalize bodyOf b (sizeOf_ b) = body at hs2 HBl HBody HBb
      obtain ⟨_, _, ha, _, hbl8, hcell8⟩ := h.cell 8 (by omega)
      cases ha
      have HK := Lib.hid (getD_get (l := b) (i := 8) (by omega))
      have hk256 : (b[8]'(by omega)).toNat < 256 := (b[8]'(by omega)).toNat_lt
      generalize hb8 : (b[8]'(by omega)).toNat = k8 at hcell8 hk256
      have HK8 := Lib.hid (show (b.getD 8 0).toNat = k8 by rw [HK.out, hb8])
      have hw8 := wrap_byte hk256
      have hw16 : IntKind.i64.wrap (16 + (n : Int)) = 16 + n := wrap_small (by omega) (by omega)
      have H2 := Lib.hid hs2
      clear hs2 hb8
      by_cases hv : 0 ≤ id ∧ id ≤ 1023 ∧ 1 ≤ k8 ∧ k8 ≤ 4
      · obtain ⟨i, rfl⟩ := Int.eq_ofNat_of_zero_le hv.1
        go_wp2
        (refine wp_region_one_call 9 (by kernel_rfl) (by kernel_rfl) rfl ?_; simp only [List.take_succ_cons, List.take_zero, List.drop_succ_cons, List.drop_zero]; (repeat (refine wpStill_step (fun K hK => ?_); go_simp; (repeat (go_ite <;> go_prune <;> (try go_simp))); (all_goals (refine hK _ ?_)); (all_goals clear hK K))); refine wpStill_nil ?_)
        go_wp2_with fail
        refine (spec_EncodePage_yes i k8 _ body S _ (H2.out.up hS (((Chg.refl [] w).alloc _).drew)) HS'.out (by omega) (by omega) (by omega) (by rw [HBl.out]; omega)).mono ?_
        rintro e w1 ⟨v', F, rfl, ho, _, hF, hc⟩
        have hc0 := ((((Chg.refl [] w).alloc (.cells #[] 5)).drew).trans hc)
        obtain ⟨a', c', rfl, _, _⟩ := ho.rd.form
        have hw8' : IntKind.i64.wrap (k8 : Int) = k8 := wrap_small (by omega) (by omega)
        (go_wp2_with fail; unfold TailPost; (repeat (refine wpStill_step (fun K hK => ?_); go_simp; (repeat (go_ite <;> go_prune <;> (try go_simp))); (all_goals (refine hK _ ?_)); (all_goals clear hK K))); refine wpStill_nil ?_)
        go_wp2_with fail
        refine (spec_l2Same_calls _ _ (encP i k8 body) b _ S w1 ho.rd (h0.out.up hS hc0)).mono ?_
        rintro e w2 ⟨rfl, hc2⟩
        have hc3 := hc0.trans hc2
        by_cases heq : encP i k8 body = b
        · have HD := Lib.hid (show decP i b = some (k8, body) by
            have hk : decOk i b := ⟨HL.out, by rw [HNn.out]; omega, ⟨hv.1, hv.2.1⟩, by rw [HK8.out]; exact hv.2.2, by rw [HK8.out, HNn.out]; rw [HBb.out]; exact heq⟩
            unfold decP; rw [if_pos hk, HK8.out, HNn.out, HBb.out])
          have hd : decide (encP i k8 body = b) = true := decide_eq_true heq
          clear heq
          have hcells := (hc3.cells.1 bb (bo + 8) hbl8).trans hcell8
          have hS2 := Lib.hid (show ∀ b, S b → b < w2.drew.heap.size from fun b hb => by have := hS b hb; have := hc3.size; simp; omega)
          go_wp2
          have hi8 : (8 : Int) < (b.length : Int) := by omega
          have hi8n : (16 : Int) ≤ 16 + (n : Int) := by omega
          have hi8c : (16 + (n : Int)).toNat ≤ c := by omega
          go_region_held3 (fun w' => w'.cell? ⟨bb, bo + 8, .none⟩ = some (.int .u8 k8)) (go_keep)
            (first | (go_at_call 63; refine (spec_l1Bytes_calls _ body S _ (H2.out.up hS hc3.drew) hS2.out (by rw [HBl.out]; omega)).mono ?_; rintro e w3 ⟨v3, F3, rfl, ho3, _, hF3, hc4⟩
                      have hc5 := (hc3.drew).trans hc4; have hk3 := (hc5.cells.1 bb (bo + 8) hbl8).trans hcell8))
          go_wp2
          go_ret3
          rw [HD.out]
          exact ⟨_, rfl, ho3.rd.mono (fun b hb => ho3.lt b hb) (Same.refl _ _), hc5⟩
        · have HD := Lib.hid (show decP i b = none from if_neg (fun hk => heq (by have := hk.2.2.2.2; rw [HK8.out, HNn.out, HBb.out] at this; exact this)))
          have hd : decide (encP i k8 body = b) = false := decide_eq_false heq
          clear heq
          go_wp2
          go_ret3
          rw [HD.out]
          exact ⟨_, rfl, ⟨_, _, rfl, by simp [bodyR], by simp [maxLen], by simp [bodyR]⟩, hc3⟩
      · have HD := Lib.hid (show decP id b = none from if_neg (fun hk => hv ⟨hk.2.2.1.1, hk.2.2.1.2, by have := hk.2.2.2.1; rw [HK8.out] at this; exact this⟩))
        go_wp2
        (refine wp_region_one_call 9 (by kernel_rfl) (by kernel_rfl) rfl ?_; simp only [List.take_succ_cons, List.take_zero, List.drop_succ_cons, List.drop_zero]; (repeat (refine wpStill_step (fun K hK => ?_); go_simp; (repeat (go_ite <;> go_prune <;> (try go_simp))); (all_goals (refine hK _ ?_)); (all_goals clear hK K))); refine wpStill_nil ?_)
        go_wp2_with fail
        refine (spec_EncodePage_no id k8 _ body S _ (H2.out.up hS (((Chg.refl [] w).alloc _).drew)) (fun hk => hv ⟨hk.1, hk.2.1, by omega, by omega⟩)).mono ?_
        rintro e w1 ⟨rfl, hc⟩
        have hc0 := ((((Chg.refl [] w).alloc (.cells #[] 5)).drew).trans hc)
        have hsz := hc.size
        (go_wp2_with fail; unfold TailPost; (repeat (refine wpStill_step (fun K hK => ?_); go_simp; (repeat (go_ite <;> go_prune <;> (try go_simp))); (all_goals (refine hK _ ?_)); (all_goals clear hK K))); refine wpStill_nil ?_)
        go_wp2
        go_ret3
        rw [HD.out]
        exact ⟨_, rfl, ⟨_, _, rfl, by simp [bodyR], by simp [maxLen], by simp [bodyR]⟩, hc0⟩
    · have hg : decide ((240 : Int) < n) = true := decide_eq_true (by omega)
      have HD := Lib.hid (show decP id b = none from if_neg (fun hk => by have := hk.2.1; have := HNn.out; omega))
      go_wp2
      go_ret3
      rw [HD.out]
      exact ⟨_, rfl, ⟨_, _, rfl, by simp [bodyR], by simp [maxLen], by simp [bodyR]⟩, (Chg.refl _ _).alloc _⟩
  · have hne : ((b.length : Int) != 256) = true := by simp; omega
    have HD := Lib.hid (show decP id b = none from if_neg (fun hk => hl hk.1))
    clear hl
    go_enter Try.func97, Try.ntmps97
    go_wp2
    go_ret3
    rw [HD.out]
    exact ⟨_, rfl, ⟨_, _, rfl, by simp [bodyR], by simp [maxLen], by simp [bodyR]⟩, (Chg.refl _ _).alloc _⟩
end Go.Proofs.Ytjolhaefnloaoaa
