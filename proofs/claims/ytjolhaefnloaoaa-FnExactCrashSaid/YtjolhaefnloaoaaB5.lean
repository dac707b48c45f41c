/- The reference's pages: read. -/
import Derived.Test.YtjolhaefnloaoaaB4
namespace Go.Proofs.Ytjolhaefnloaoaa
open Go.RowKit Sh

set_option maxRecDepth 100000 in
set_option maxHeartbeats 1000000 in
theorem spec_l2Same_calls (v1 v2 : Value) (xs ys : List UInt8) (S1 S2 : Nat → Prop) (w : World) (h1 : SlRd byte S1 w v1 xs) (h2 : SlRd byte S2 w v2 ys) :
    Calls Try.prog 111 #[v1, v2] w fun e w' => e = .returned (.bool (decide (xs = ys))) ∧ Chg [] w w' := by
  obtain ⟨a1, c1, rfl, _, _⟩ := h1.form
  obtain ⟨a2, c2, rfl, _, _⟩ := h2.form
  have hb := h1.bound
  have hb2 := h2.bound
  by_cases hl : xs.length = ys.length
  · have hne : ((xs.length : Int) != (ys.length : Int)) = false := by simp [hl]
    have HL := Lib.hid hl
    clear hl
    go_enter Try.func111, Try.ntmps111
    go_wp2
    go_loopw [5] (fun i wr => ∃ j n : Nat, j ≤ xs.length ∧ i = .int .i64 j ∧ wr = w.drewN n ∧ Hid (xs.take j = ys.take j)) (fun i _ => xs.length - (intOf i).toNat)
    case atStart => exact ⟨0, 0, by omega, rfl, rfl, Lib.hid (by simp)⟩
    case round =>
      obtain ⟨j, n, hj, rfl, rfl, HE⟩ := hrel
      by_cases hlt : j < xs.length
      · have hlt2 : j < ys.length := by rw [← HL.out]; exact hlt
        obtain ⟨b1, o1, rfl, _, _, q1⟩ := h1.cell j hlt
        obtain ⟨b2, o2, rfl, _, _, q2⟩ := h2.cell j hlt2
        have hj2 : (j : Int) < (ys.length : Int) := by omega
        by_cases hc : xs[j] = ys[j]
        · have hcc : (((xs[j]).toNat : Int) != ((ys[j]).toNat : Int)) = false := by simp [hc]
          have HC := Lib.hid hc
          clear hc
          go_wp2
          go_quiet (fail)
          go_wp2
          go_round
          case rel => exact ⟨j + 1, _, by omega, by go_num, rfl, Lib.hid (by rw [take_snoc xs j hlt, take_snoc ys j hlt2, HE.out, HC.out])⟩
          case measure => simp [intOf]; omega
        · have hcc : (((xs[j]).toNat : Int) != ((ys[j]).toNat : Int)) = true := by
            simp only [bne_iff_ne, ne_eq]
            intro h
            exact hc (UInt8.toNat_inj.1 (by exact_mod_cast h))
          have HC := Lib.hid hc
          clear hc
          go_wp2
          go_quiet (fail)
          go_wp2
          go_ret
          exact ⟨ret_bool (decide_eq_false (fun h => HC.out (List.getElem_of_eq h hlt))).symm, ((Chg.refl _ _).drewN _).drewN _⟩
      · go_wp2
        go_ret
        exact ⟨ret_bool (decide_eq_true (by
          have := HE.out
          rwa [List.take_of_length_le (by omega), List.take_of_length_le (by have := HL.out; omega)] at this)).symm, (Chg.refl _ _).drewN n⟩
  · have hne : ((xs.length : Int) != (ys.length : Int)) = true := by simp; omega
    have HL := Lib.hid hl
    clear hl
    go_enter Try.func111, Try.ntmps111
    go_wp2
    go_ret
    exact ⟨ret_bool (decide_eq_false (fun h => HL.out (by rw [h]))).symm, Chg.refl _ _⟩

set_option maxRecDepth 100000 in
set_option maxHeartbeats 2000000 in
theorem spec_EncodePage_no (id kind : Int) (v : Value) (body : List UInt8) (S : Nat → Prop) (w : World) (h : SlRd byte S w v body) (hn : ¬ (0 ≤ id ∧ id ≤ 1023 ∧ 1 ≤ kind ∧ kind ≤ 4 ∧ body.length ≤ 240)) :
    Calls Try.prog 76 #[.int .i64 id, .int .i64 kind, v] w fun e w' => e = .returned (.tuple #[.slice (some ⟨w.heap.size, 0, none⟩) 0 0, .bool false]) ∧ Chg [] w w' := by
  obtain ⟨a, c, rfl, hc1, _⟩ := h.form
  by_cases k1 : id < 0
  · have g1 : decide ((id : Int) < 0) = true := decide_eq_true k1
    go_enter Try.func76, Try.ntmps76
    go_wp2
    go_ret2
    exact ⟨rfl, (Chg.refl _ _).alloc _⟩
  have g1 : decide ((id : Int) < 0) = false := decide_eq_false k1
  by_cases k2 : 1023 < id
  · have g2 : decide (1023 < id) = true := decide_eq_true k2
    go_enter Try.func76, Try.ntmps76
    go_wp2
    go_ret2
    exact ⟨rfl, (Chg.refl _ _).alloc _⟩
  have g2 : decide (1023 < id) = false := decide_eq_false k2
  by_cases k3 : kind < 1
  · have g3 : decide (kind < 1) = true := decide_eq_true k3
    go_enter Try.func76, Try.ntmps76
    go_wp2
    go_ret2
    exact ⟨rfl, (Chg.refl _ _).alloc _⟩
  have g3 : decide (kind < 1) = false := decide_eq_false k3
  by_cases k4 : 4 < kind
  · have g4 : decide (4 < kind) = true := decide_eq_true k4
    go_enter Try.func76, Try.ntmps76
    go_wp2
    go_ret2
    exact ⟨rfl, (Chg.refl _ _).alloc _⟩
  have g4 : decide (4 < kind) = false := decide_eq_false k4
  have k5 : 240 < body.length := by omega
  have g5 : decide ((240 : Int) < body.length) = true := decide_eq_true (by omega)
  have g5' : decide (240 < body.length) = true := decide_eq_true (by omega)
  clear hn
  go_enter Try.func76, Try.ntmps76
  go_wp2
  go_ret2
  exact ⟨rfl, (Chg.refl _ _).alloc _⟩
end Go.Proofs.Ytjolhaefnloaoaa
