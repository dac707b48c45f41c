/- The laws' own helpers: sizes. -/
import Derived.Test.YtjolhaefnloaoaaProg
import Derived.Test.YtjolhaefnloaoaaL2
import Derived.Deep.QuietTactic
import Derived.BigQuiet
import Derived.RowKit3
import Derived.Lib.Hide
namespace Go.Proofs.Ytjolhaefnloaoaa
open Go.RowKit Sh

set_option maxHeartbeats 1000000 in
theorem szByteS_calls (v : Value) (left : Int) (xs : List UInt8) (S : Nat → Prop) (w : World) (h : SlRd byte S w v xs) (h0 : 0 ≤ left) (h1 : left ≤ 1048576) :
    Calls Try.prog 85 #[v, .int .i64 left] w fun e w' => e = .returned (.int .i64 (szr left xs.length)) ∧ w = w' := by
  obtain ⟨a, c, rfl, hc1, hc2⟩ := h.form
  have hb := h.bound
  by_cases hlt : (xs.length : Int) ≤ left
  · go_enter Try.func85, Try.ntmps85
    go_wp2
    go_ret
    exact ⟨ret_int (szr_fits (by omega)).symm, rfl⟩
  · go_enter Try.func85, Try.ntmps85
    go_wp2
    go_ret
    exact ⟨ret_int (szr_less (by omega)).symm, rfl⟩

set_option maxHeartbeats 1000000 in
theorem szByteSS_calls (v : Value) (left : Int) (xs : List (List UInt8)) (S : Nat → Prop) (w : World) (h : SlRd bytesSh S w v xs) (h0 : 0 ≤ left) (h1 : left ≤ 1048576) :
    Calls Try.prog 49 #[v, .int .i64 left] w fun e w' => e = .returned (.int .i64 (szr left (szSS xs))) ∧ w = w' := by
  obtain ⟨a, c, rfl, hc1, hc2⟩ := h.form
  have hb := h.bound
  by_cases hlt : (xs.length : Int) ≤ left
  · go_enter Try.func49, Try.ntmps49
    go_wp2
    go_loop [1, 5] (fun l i => ∃ j : Nat, j ≤ xs.length ∧ (xs.length : Int) + sumLen (xs.take j) ≤ left ∧ l = .int .i64 (left - xs.length - sumLen (xs.take j)) ∧ i = .int .i64 j) (fun _ i => xs.length - (intOf i).toNat)
    case atStart => exact ⟨0, by omega, by simpa [sumLen] using hlt, by simp [sumLen], rfl⟩
    case round =>
      obtain ⟨j, hj, hle, rfl, rfl⟩ := hrel
      by_cases hlt : j < xs.length
      · obtain ⟨b, o, u, rfl, hb, hbl, hcell, hr⟩ := h.cellS j hlt
        have hs := sumLen_take_succ xs j hlt
        have ht := sumLen_take_le xs (j + 1)
        have hH := Lib.hid hs
        clear hs
        by_cases hc : (xs[j].length : Int) ≤ left - xs.length - sumLen (xs.take j)
        · go_wp2_with (go_at_call 85; refine (szByteS_calls _ _ _ S _ hr (by omega) (by omega)).mono ?_; rintro e w' ⟨rfl, rfl⟩; rw [szr_fits hc])
          go_round
          case rel => exact ⟨j + 1, by omega, by rw [hH.out]; omega, by rw [hH.out]; congr 1; omega, by go_num⟩
          case measure => simp [intOf]; omega
        · go_wp2_with (go_at_call 85; refine (szByteS_calls _ _ _ S _ hr (by omega) (by omega)).mono ?_; rintro e w' ⟨rfl, rfl⟩; rw [szr_less (by omega)])
          go_ret
          exact ⟨ret_int (szr_less (by unfold szSS; have := hH.out; omega)).symm, rfl⟩
      · have ht := sumLen_take_all xs j (by omega)
        have hH := Lib.hid ht
        clear ht
        go_wp2
        go_ret
        exact ⟨ret_int (by have q := hH.out; rw [szr_fits (by unfold szSS; omega)]; unfold szSS; omega), rfl⟩
  · go_enter Try.func49, Try.ntmps49
    go_wp2
    go_ret
    exact ⟨ret_int (szr_less (by unfold szSS; omega)).symm, rfl⟩

set_option maxHeartbeats 1000000 in
theorem szPend_calls (p : Int) (u : Value) (left : Int) (xs : List UInt8) (S : Nat → Prop) (w : World) (h : SlRd byte S w u xs) (hS : ∀ b, S b → b < w.heap.size) (h0 : 0 ≤ left) (h1 : left ≤ 1048576) :
    Calls Try.prog 86 #[.agg #[.int .i64 p, u], .int .i64 left] w fun e w' => e = .returned (.int .i64 (szr left xs.length)) ∧ Chg [] w w' := by
  have hr : SlRd byte S (w.alloc (.cells #[.int .i64 p, u] 143)) u xs := h.mono (fun _ hb => hb) (Same.alloc hS _)
  by_cases hc : (xs.length : Int) ≤ left
  · go_enter Try.func86, Try.ntmps86
    go_wp2_with (go_at_call 85; refine (szByteS_calls _ _ _ S _ hr (by omega) (by omega)).mono ?_; rintro e w' ⟨rfl, rfl⟩; rw [szr_fits hc])
    go_ret
    exact ⟨ret_int (szr_fits hc).symm, (Chg.refl _ _).alloc _⟩
  · go_enter Try.func86, Try.ntmps86
    go_wp2_with (go_at_call 85; refine (szByteS_calls _ _ _ S _ hr (by omega) (by omega)).mono ?_; rintro e w' ⟨rfl, rfl⟩; rw [szr_less (by omega)])
    go_ret
    exact ⟨ret_int (szr_less (by omega)).symm, (Chg.refl _ _).alloc _⟩

set_option maxHeartbeats 1000000 in
theorem szPendS_calls (v : Value) (left : Int) (xs : List PendD) (S : Nat → Prop) (w : World) (h : SlRd pendSh S w v xs) (hS : ∀ b, S b → b < w.heap.size) (h0 : 0 ≤ left) (h1 : left ≤ 1048576) :
    Calls Try.prog 50 #[v, .int .i64 left] w fun e w' => e = .returned (.int .i64 (szr left (szPS xs))) ∧ Chg [] w w' := by
  obtain ⟨a, c, rfl, hc1, hc2⟩ := h.form
  have hb := h.bound
  by_cases hlt : (xs.length : Int) ≤ left
  · go_enter Try.func50, Try.ntmps50
    go_wp2
    go_loopw [1, 5] (fun l i wr => ∃ j : Nat, j ≤ xs.length ∧ (xs.length : Int) + sumLen ((xs.map PendD.data).take j) ≤ left ∧ l = .int .i64 (left - xs.length - sumLen ((xs.map PendD.data).take j)) ∧ i = .int .i64 j ∧ Chg [] w wr) (fun _ i _ => xs.length - (intOf i).toNat)
    case atStart => exact ⟨0, by omega, by simpa [sumLen] using hlt, by simp [sumLen], rfl, Chg.refl _ _⟩
    case round =>
      obtain ⟨j, hj, hle, rfl, rfl, hchg⟩ := hrel
      by_cases hlt : j < xs.length
      · have hrd : SlRd pendSh S wr (.slice a xs.length c) xs := h.mono (fun _ hb => hb) (hchg.same (fun b hb => ⟨hS b hb, by simp⟩))
        have hS' : ∀ b, S b → b < wr.heap.size := fun b hb => Nat.lt_of_lt_of_le (hS b hb) hchg.size
        obtain ⟨b, o, u, rfl, hb, hbl, hc0, hc1', hr⟩ := pend_cell hrd j hlt
        have hs := sumLen_take_succ (xs.map PendD.data) j (by simpa using hlt)
        have ht := sumLen_take_le (xs.map PendD.data) (j + 1)
        simp only [List.getElem_map] at hs
        have hH := Lib.hid hs
        have HC := Lib.hid hchg
        clear hs hchg hrd
        by_cases hc : (xs[j].data.length : Int) ≤ left - xs.length - sumLen ((xs.map PendD.data).take j)
        · go_wp2_with (go_at_call 86; refine (szPend_calls _ _ _ _ S _ hr hS' (by omega) (by omega)).mono ?_; rintro e w1 ⟨rfl, hc1⟩; rw [szr_fits hc])
          go_roundw
          case rel => exact ⟨j + 1, by omega, by rw [hH.out]; omega, by rw [hH.out]; congr 1; omega, by go_num, HC.out.trans hc1⟩
          case measure => simp [intOf]; omega
        · go_wp2_with (go_at_call 86; refine (szPend_calls _ _ _ _ S _ hr hS' (by omega) (by omega)).mono ?_; rintro e w1 ⟨rfl, hc1⟩; rw [szr_less (by omega)])
          go_ret
          exact ⟨ret_int (szr_less (by unfold szPS; have := hH.out; omega)).symm, HC.out.trans hc1⟩
      · have ht := sumLen_take_all (xs.map PendD.data) j (by simp; omega)
        have hH := Lib.hid ht
        clear ht
        go_wp2
        go_ret
        exact ⟨ret_int (by have q := hH.out; rw [szr_fits (by unfold szPS; omega)]; unfold szPS; omega), hchg⟩
  · go_enter Try.func50, Try.ntmps50
    go_wp2
    go_ret
    exact ⟨ret_int (szr_less (by unfold szPS; omega)).symm, Chg.refl _ _⟩

set_option maxHeartbeats 1000000 in
theorem szDisk_calls (v1 v2 : Value) (left : Int) (D : DiskD) (S : Nat → Prop) (w : World) (h : DiskRd S w v1 v2 D) (hS : ∀ b, S b → b < w.heap.size) (h0 : 0 ≤ left) (h1 : left ≤ 1048576) :
    Calls Try.prog 14 #[.agg #[v1, v2], .int .i64 left] w fun e w' => e = .returned (.int .i64 (szr left (szD D))) ∧ Chg [] w w' := by
  have hr1 : SlRd bytesSh S (w.alloc (.cells #[v1, v2] 43)) v1 D.safe := h.1.mono (fun _ hb => hb) (Same.alloc hS _)
  have hr2 : SlRd pendSh S (w.alloc (.cells #[v1, v2] 43)) v2 D.pend := h.2.mono (fun _ hb => hb) (Same.alloc hS _)
  have hS' : ∀ b, S b → b < (w.alloc (.cells #[v1, v2] 43)).heap.size := fun b hb => by have := hS b hb; simp; omega
  clear h hS
  by_cases hc : (szSS D.safe : Int) ≤ left
  · by_cases hc2 : (szPS D.pend : Int) ≤ left - szSS D.safe
    all_goals
      go_enter Try.func14, Try.ntmps14
      go_wp2_with (go_at_call 49; refine (szByteSS_calls _ _ _ S _ hr1 (by omega) (by omega)).mono ?_; rintro e w' ⟨rfl, rfl⟩; rw [szr_fits hc])
      refine (szPendS_calls _ _ _ S _ hr2 hS' (by omega) (by omega)).mono ?_
      rintro e w1 ⟨rfl, hc1⟩
    · rw [szr_fits hc2]
      go_wp2
      go_ret
      exact ⟨ret_int (by rw [szr_fits (by unfold szD; omega)]; unfold szD; omega), ((Chg.refl _ _).alloc _).trans hc1⟩
    · rw [szr_less (by omega)]
      go_wp2
      go_ret
      exact ⟨ret_int (szr_less (by unfold szD; omega)).symm, ((Chg.refl _ _).alloc _).trans hc1⟩
  · go_enter Try.func14, Try.ntmps14
    go_wp2_with (go_at_call 49; refine (szByteSS_calls _ _ _ S _ hr1 (by omega) (by omega)).mono ?_; rintro e w' ⟨rfl, rfl⟩; rw [szr_less (by omega)])
    go_ret
    exact ⟨ret_int (szr_less (by unfold szD; omega)).symm, (Chg.refl _ _).alloc _⟩
end Go.Proofs.Ytjolhaefnloaoaa
