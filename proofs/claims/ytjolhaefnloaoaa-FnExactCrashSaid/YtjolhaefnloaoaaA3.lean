/- The laws' own helpers: equality, of two that are the same. -/
import Derived.Test.YtjolhaefnloaoaaProg
import Derived.Test.YtjolhaefnloaoaaA2
import Derived.Deep.QuietTactic
import Derived.BigQuiet
import Derived.StillTailTactics
import Derived.RowKit3
import Derived.Lib.Hide
namespace Go.Proofs.Ytjolhaefnloaoaa
open Go.RowKit Sh

set_option maxRecDepth 100000 in
set_option maxHeartbeats 1000000 in
theorem eqByteS_calls (v1 v2 : Value) (xs : List UInt8) (S1 S2 : Nat → Prop) (w : World) (h1 : SlRd byte S1 w v1 xs) (h2 : SlRd byte S2 w v2 xs) :
    Calls Try.prog 26 #[v1, v2] w fun e w' => e = .returned (.bool true) ∧ ∃ n, w' = w.drewN n := by
  obtain ⟨a1, c1, rfl, _, _⟩ := h1.form
  obtain ⟨a2, c2, rfl, _, _⟩ := h2.form
  have hb := h1.bound
  go_enter Try.func26, Try.ntmps26
  go_wp2
  go_loopw [5] (fun i wr => ∃ j n : Nat, j ≤ xs.length ∧ i = .int .i64 j ∧ wr = w.drewN n) (fun i _ => xs.length - (intOf i).toNat)
  case atStart => exact ⟨0, 0, by omega, rfl, rfl⟩
  case round =>
    obtain ⟨j, n, hj, rfl, rfl⟩ := hrel
    by_cases hlt : j < xs.length
    · obtain ⟨b1, o1, rfl, _, _, q1⟩ := h1.cell j hlt
      obtain ⟨b2, o2, rfl, _, _, q2⟩ := h2.cell j hlt
      go_wp2
      go_quiet (fail)
      go_wp2
      go_round
      case rel => exact ⟨j + 1, _, by omega, by go_num, rfl⟩
      case measure => simp [intOf]; omega
    · go_wp2
      go_ret
      exact ⟨rfl, n, rfl⟩

theorem eqByteS_chg (v1 v2 : Value) (xs : List UInt8) (S1 S2 : Nat → Prop) (w : World) (h1 : SlRd byte S1 w v1 xs) (h2 : SlRd byte S2 w v2 xs) :
    Calls Try.prog 26 #[v1, v2] w fun e w' => e = .returned (.bool true) ∧ Chg [] w w' :=
  (eqByteS_calls v1 v2 xs S1 S2 w h1 h2).mono fun _ _ ⟨he, n, hw⟩ => ⟨he, hw ▸ (Chg.refl _ _).drewN n⟩

set_option maxRecDepth 100000 in
set_option maxHeartbeats 1000000 in
theorem eqByteSS_calls (v1 v2 : Value) (xs : List (List UInt8)) (S1 S2 : Nat → Prop) (w : World) (h1 : SlRd bytesSh S1 w v1 xs) (h2 : SlRd bytesSh S2 w v2 xs) (hS1 : ∀ b, S1 b → b < w.heap.size) (hS2 : ∀ b, S2 b → b < w.heap.size) :
    Calls Try.prog 57 #[v1, v2] w fun e w' => e = .returned (.bool true) ∧ Chg [] w w' := by
  obtain ⟨a1, c1, rfl, _, _⟩ := h1.form
  obtain ⟨a2, c2, rfl, _, _⟩ := h2.form
  have hb := h1.bound
  go_enter Try.func57, Try.ntmps57
  go_wp2
  go_loopw [5] (fun i wr => ∃ j : Nat, j ≤ xs.length ∧ i = .int .i64 j ∧ Chg [] w wr) (fun i _ => xs.length - (intOf i).toNat)
  case atStart => exact ⟨0, by omega, rfl, Chg.refl _ _⟩
  case round =>
    obtain ⟨j, hj, rfl, hchg⟩ := hrel
    by_cases hlt : j < xs.length
    · have HC := Lib.hid hchg
      obtain ⟨b1, o1, u1, rfl, _, _, q1, r1⟩ := (h1.up hS1 hchg).cellS j hlt
      obtain ⟨b2, o2, u2, rfl, _, _, q2, r2⟩ := (h2.up hS2 hchg).cellS j hlt
      clear hchg
      go_wp2
      go_still_tail 8, (by kernel_rfl)
      change wpList _ _ _ _ _ wr.drew
      go_wp2_with fail
      refine (eqByteS_chg _ _ _ S1 S2 _ r1.drew r2.drew).mono ?_
      rintro e w1 ⟨rfl, hc1⟩
      have HC1 := Lib.hid hc1
      clear hc1
      go_wp2
      go_roundw
      case rel => exact ⟨j + 1, by omega, by go_num, (HC.out.drew).trans HC1.out⟩
      case measure => simp [intOf]; omega
    · go_wp2
      go_ret
      exact ⟨rfl, hchg⟩

set_option maxRecDepth 100000 in
set_option maxHeartbeats 1000000 in
theorem eqPend_calls (p : Int) (v1 v2 : Value) (xs : List UInt8) (S1 S2 : Nat → Prop) (w : World) (h1 : SlRd byte S1 w v1 xs) (h2 : SlRd byte S2 w v2 xs) (hS1 : ∀ b, S1 b → b < w.heap.size) (hS2 : ∀ b, S2 b → b < w.heap.size) :
    Calls Try.prog 93 #[.agg #[.int .i64 p, v1], .agg #[.int .i64 p, v2]] w fun e w' => e = .returned (.bool true) ∧ Chg [] w w' := by
  have hp : (p != p) = false := by simp
  go_enter Try.func93, Try.ntmps93
  go_wp2_with fail
  refine (eqByteS_chg _ _ _ S1 S2 _ (h1.up hS1 (((Chg.refl [] w).alloc _).alloc _)) (h2.up hS2 (((Chg.refl [] w).alloc _).alloc _))).mono ?_
  rintro e w1 ⟨rfl, hc1⟩
  have HC1 := Lib.hid hc1
  clear hc1
  go_wp2
  go_ret
  exact ⟨rfl, (((Chg.refl [] w).alloc _).alloc _).trans HC1.out⟩

set_option maxRecDepth 100000 in
set_option maxHeartbeats 1000000 in
theorem eqPendS_calls (v1 v2 : Value) (xs : List PendD) (S1 S2 : Nat → Prop) (w : World) (h1 : SlRd pendSh S1 w v1 xs) (h2 : SlRd pendSh S2 w v2 xs) (hS1 : ∀ b, S1 b → b < w.heap.size) (hS2 : ∀ b, S2 b → b < w.heap.size) :
    Calls Try.prog 58 #[v1, v2] w fun e w' => e = .returned (.bool true) ∧ Chg [] w w' := by
  obtain ⟨a1, c1, rfl, _, _⟩ := h1.form
  obtain ⟨a2, c2, rfl, _, _⟩ := h2.form
  have hb := h1.bound
  go_enter Try.func58, Try.ntmps58
  go_wp2
  go_loopw [5] (fun i wr => ∃ j : Nat, j ≤ xs.length ∧ i = .int .i64 j ∧ Chg [] w wr) (fun i _ => xs.length - (intOf i).toNat)
  case atStart => exact ⟨0, by omega, rfl, Chg.refl _ _⟩
  case round =>
    obtain ⟨j, hj, rfl, hchg⟩ := hrel
    by_cases hlt : j < xs.length
    · have HC := Lib.hid hchg
      obtain ⟨b1, o1, u1, rfl, _, _, p1, q1, r1⟩ := pend_cell (h1.up hS1 hchg) j hlt
      obtain ⟨b2, o2, u2, rfl, _, _, p2, q2, r2⟩ := pend_cell (h2.up hS2 hchg) j hlt
      clear hchg
      go_wp2
      go_still_tail 8, (by kernel_rfl)
      change wpList _ _ _ _ _ wr.drew
      go_wp2_with fail
      refine (eqPend_calls _ _ _ _ S1 S2 _ r1.drew r2.drew (fun b hb => Nat.lt_of_lt_of_le (hS1 b hb) HC.out.size) (fun b hb => Nat.lt_of_lt_of_le (hS2 b hb) HC.out.size)).mono ?_
      rintro e w1 ⟨rfl, hc1⟩
      have HC1 := Lib.hid hc1
      clear hc1
      go_wp2
      go_roundw
      case rel => exact ⟨j + 1, by omega, by go_num, (HC.out.drew).trans HC1.out⟩
      case measure => simp [intOf]; omega
    · go_wp2
      go_ret
      exact ⟨rfl, hchg⟩

set_option maxRecDepth 100000 in
set_option maxHeartbeats 1000000 in
theorem eqDisk_calls (a1 b1 a2 b2 : Value) (D : DiskD) (S1 S2 : Nat → Prop) (w : World) (h1 : DiskRd S1 w a1 b1 D) (h2 : DiskRd S2 w a2 b2 D) (hS1 : ∀ b, S1 b → b < w.heap.size) (hS2 : ∀ b, S2 b → b < w.heap.size) :
    Calls Try.prog 19 #[.agg #[a1, b1], .agg #[a2, b2]] w fun e w' => e = .returned (.bool true) ∧ Chg [] w w' := by
  have H1 := Lib.hid h1
  have H2 := Lib.hid h2
  clear h1 h2
  go_enter Try.func19, Try.ntmps19
  go_wp2_with fail
  have HCa := Lib.hid (((Chg.refl [] w).alloc (.cells #[a1, b1] 26)).alloc (.cells #[a2, b2] 26))
  refine (eqByteSS_calls _ _ _ S1 S2 _ (H1.out.1.up hS1 HCa.out) (H2.out.1.up hS2 HCa.out) (fun b hb => Nat.lt_of_lt_of_le (hS1 b hb) HCa.out.size) (fun b hb => Nat.lt_of_lt_of_le (hS2 b hb) HCa.out.size)).mono ?_
  rintro e w1 ⟨rfl, hc1⟩
  obtain ⟨hcc1, hff1⟩ := hc1.cells
  have HC1 := Lib.hid (HCa.out.trans hc1)
  clear hc1
  go_wp2_with fail
  refine (eqPendS_calls _ _ _ S1 S2 _ (H1.out.2.up hS1 HC1.out) (H2.out.2.up hS2 HC1.out) (fun b hb => Nat.lt_of_lt_of_le (hS1 b hb) HC1.out.size) (fun b hb => Nat.lt_of_lt_of_le (hS2 b hb) HC1.out.size)).mono ?_
  rintro e w2 ⟨rfl, hc2⟩
  have HC2 := Lib.hid (HC1.out.trans hc2)
  clear hc2
  go_wp2
  go_ret
  exact ⟨rfl, HC2.out⟩
end Go.Proofs.Ytjolhaefnloaoaa
