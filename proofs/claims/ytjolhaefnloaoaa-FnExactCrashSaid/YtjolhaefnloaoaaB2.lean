/- The reference's disk: valid or not; what its sectors hold now. -/
import Derived.Test.YtjolhaefnloaoaaB1
import Derived.Test.YtjolhaefnloaoaaM2
namespace Go.Proofs.Ytjolhaefnloaoaa
open Go.RowKit Sh

set_option maxRecDepth 100000 in
set_option maxHeartbeats 2000000 in
theorem spec_DiskOk_calls (v1 v2 : Value) (D : DiskD) (S : Nat → Prop) (w : World) (h : DiskRd S w v1 v2 D) (hS : ∀ b, S b → b < w.heap.size) :
    Calls Try.prog 33 #[.agg #[v1, v2]] w fun e w' => e = .returned (.bool (decide (DiskOkP D))) ∧ Chg [] w w' := by
  obtain ⟨h1, h2⟩ := h
  obtain ⟨a1, c1, rfl, _, _⟩ := h1.form
  obtain ⟨a2, c2, rfl, _, _⟩ := h2.form
  have hb1 := h1.bound
  have hb2 := h2.bound
  by_cases k1 : 1 ≤ D.safe.length
  · by_cases k2 : D.safe.length ≤ 4096
    · by_cases k3 : D.pend.length ≤ 5000
      · have g1 : decide ((D.safe.length : Int) < 1) = false := decide_eq_false (by omega)
        have g2 : decide ((4096 : Int) < D.safe.length) = false := decide_eq_false (by omega)
        have g3 : decide ((5000 : Int) < D.pend.length) = false := decide_eq_false (by omega)
        have g1' : decide (D.safe.length < 1) = false := decide_eq_false (by omega)
        have g2' : decide (4096 < D.safe.length) = false := decide_eq_false (by omega)
        have g3' : decide (5000 < D.pend.length) = false := decide_eq_false (by omega)
        go_enter Try.func33, Try.ntmps33
        go_wp2
        go_loop [4] (fun i => ∃ j : Nat, j ≤ D.safe.length ∧ i = .int .i64 j ∧ Hid (∀ s ∈ D.safe.take j, s.length = 64)) (fun i => D.safe.length - (intOf i).toNat)
        case atStart => exact ⟨0, by omega, rfl, Lib.hid (by simp)⟩
        case round =>
          obtain ⟨j, hj, rfl, HA⟩ := hrel
          by_cases hlt : j < D.safe.length
          · obtain ⟨b, o, u, rfl, hSb, hbl, hcell, hr⟩ := h1.cellS j hlt
            obtain ⟨a, c, rfl, _, _⟩ := hr.form
            by_cases hc : D.safe[j].length = 64
            · have hne : ((D.safe[j].length : Int) != 64) = false := by simp [hc]
              have HC := Lib.hid hc
              clear hc hr
              go_wp2
              go_round
              case rel => exact ⟨j + 1, by omega, by go_num, Lib.hid (all_take_succ hlt HA.out HC.out)⟩
              case measure => simp [intOf]; omega
            · have hne : ((D.safe[j].length : Int) != 64) = true := by simp; omega
              have HC := Lib.hid hc
              clear hc hr
              go_wp2
              go_ret
              exact ⟨ret_bool (decide_eq_false (fun hk => not_all_get hlt HC.out hk.2.1)).symm, (Chg.refl _ _).alloc _⟩
          · have HAll := Lib.hid (all_of_take (by omega) HA.out)
            clear HA
            go_wp2
            go_loopw [5] (fun i wr => ∃ j : Nat, j ≤ D.pend.length ∧ i = .int .i64 j ∧ Hid (∀ p ∈ D.pend.take j, 0 ≤ p.pos ∧ p.pos < D.safe.length ∧ p.data.length = 64) ∧ Chg [] (w.alloc (.cells #[.slice a1 D.safe.length c1, .slice a2 D.pend.length c2] 26)) wr) (fun i _ => D.pend.length - (intOf i).toNat)
            case atStart => exact ⟨0, by omega, rfl, Lib.hid (by simp), Chg.refl _ _⟩
            case round =>
              obtain ⟨q, hq, rfl, HP, hchg⟩ := hrel
              obtain ⟨hcc, hff⟩ := hchg.cells
              have hsz := hchg.size
              simp at hsz
              have hlw : w.heap.size < wr.heap.size := by omega
              have HC0 := Lib.hid (((Chg.refl [] w).alloc _).trans hchg)
              have HC1 := Lib.hid hchg
              clear hchg
              by_cases hql : q < D.pend.length
              · obtain ⟨b, o, u, rfl, hSb, hbl, hcell0, hcell1, hr⟩ := pend_cell (h2.up hS HC0.out) q hql
                obtain ⟨a, c, rfl, _, _⟩ := hr.form
                clear hr
                by_cases e1 : 0 ≤ D.pend[q].pos
                · have t1 : decide (D.pend[q].pos < 0) = false := decide_eq_false (by omega)
                  by_cases e2 : D.pend[q].pos < D.safe.length
                  · have t2 : decide ((D.safe.length : Int) ≤ D.pend[q].pos) = false := decide_eq_false (by omega)
                    by_cases e3 : D.pend[q].data.length = 64
                    · have t3 : ((D.pend[q].data.length : Int) != 64) = false := by simp [e3]
                      have HE := Lib.hid (show 0 ≤ D.pend[q].pos ∧ D.pend[q].pos < D.safe.length ∧ D.pend[q].data.length = 64 from ⟨e1, e2, e3⟩)
                      clear e3
                      go_wp2
                      go_roundw
                      case rel => exact ⟨q + 1, by omega, by go_num, Lib.hid (all_take_succ hql HP.out HE.out), HC1.out.alloc _⟩
                      case measure => simp [intOf]; omega
                    · have t3 : ((D.pend[q].data.length : Int) != 64) = true := by simp; omega
                      have HE := Lib.hid (show ¬ (0 ≤ D.pend[q].pos ∧ D.pend[q].pos < D.safe.length ∧ D.pend[q].data.length = 64) from fun h => e3 h.2.2)
                      clear e3
                      go_wp2
                      go_ret
                      exact ⟨ret_bool (decide_eq_false (fun hk => not_all_get hql HE.out hk.2.2)).symm, HC0.out.alloc _⟩
                  · have t2 : decide ((D.safe.length : Int) ≤ D.pend[q].pos) = true := decide_eq_true (by omega)
                    have HE := Lib.hid (show ¬ (0 ≤ D.pend[q].pos ∧ D.pend[q].pos < D.safe.length ∧ D.pend[q].data.length = 64) from fun h => e2 h.2.1)
                    go_wp2
                    go_ret
                    exact ⟨ret_bool (decide_eq_false (fun hk => not_all_get hql HE.out hk.2.2)).symm, HC0.out.alloc _⟩
                · have t1 : decide (D.pend[q].pos < 0) = true := decide_eq_true (by omega)
                  have HE := Lib.hid (show ¬ (0 ≤ D.pend[q].pos ∧ D.pend[q].pos < D.safe.length ∧ D.pend[q].data.length = 64) from fun h => e1 h.1)
                  go_wp2
                  go_ret
                  exact ⟨ret_bool (decide_eq_false (fun hk => not_all_get hql HE.out hk.2.2)).symm, HC0.out.alloc _⟩
              · have HPA := Lib.hid (all_of_take (by omega) HP.out)
                go_wp2
                go_ret
                exact ⟨ret_bool (decide_eq_true ⟨⟨k1, k2, k3⟩, HAll.out, HPA.out⟩).symm, HC0.out⟩
      · have g1 : decide ((D.safe.length : Int) < 1) = false := decide_eq_false (by omega)
        have g2 : decide ((4096 : Int) < D.safe.length) = false := decide_eq_false (by omega)
        have g3 : decide ((5000 : Int) < D.pend.length) = true := decide_eq_true (by omega)
        have g1' : decide (D.safe.length < 1) = false := decide_eq_false (by omega)
        have g2' : decide (4096 < D.safe.length) = false := decide_eq_false (by omega)
        have g3' : decide (5000 < D.pend.length) = true := decide_eq_true (by omega)
        go_enter Try.func33, Try.ntmps33
        go_wp2
        go_ret
        exact ⟨ret_bool (decide_eq_false (fun hk => k3 hk.1.2.2)).symm, (Chg.refl _ _).alloc _⟩
    · have g1 : decide ((D.safe.length : Int) < 1) = false := decide_eq_false (by omega)
      have g2 : decide ((4096 : Int) < D.safe.length) = true := decide_eq_true (by omega)
      have g1' : decide (D.safe.length < 1) = false := decide_eq_false (by omega)
      have g2' : decide (4096 < D.safe.length) = true := decide_eq_true (by omega)
      go_enter Try.func33, Try.ntmps33
      go_wp2
      go_ret
      exact ⟨ret_bool (decide_eq_false (fun hk => k2 hk.1.2.1)).symm, (Chg.refl _ _).alloc _⟩
  · have g1 : decide ((D.safe.length : Int) < 1) = true := decide_eq_true (by omega)
    have g1' : decide (D.safe.length < 1) = true := decide_eq_true (by omega)
    go_enter Try.func33, Try.ntmps33
    go_wp2
    go_ret
    exact ⟨ret_bool (decide_eq_false (fun hk => k1 hk.1.1)).symm, (Chg.refl _ _).alloc _⟩

set_option maxRecDepth 100000 in
set_option maxHeartbeats 2000000 in
theorem impl_DiskOk_calls (v1 v2 : Value) (D : DiskD) (S : Nat → Prop) (w : World) (h : DiskRd S w v1 v2 D) (hS : ∀ b, S b → b < w.heap.size) :
    Calls Try.prog 36 #[.agg #[v1, v2]] w fun e w' => e = .returned (.bool (decide (DiskOkP D))) ∧ Chg [] w w' := by
  obtain ⟨h1, h2⟩ := h
  obtain ⟨a1, c1, rfl, _, _⟩ := h1.form
  obtain ⟨a2, c2, rfl, _, _⟩ := h2.form
  have hb1 := h1.bound
  have hb2 := h2.bound
  by_cases k1 : 1 ≤ D.safe.length
  · by_cases k2 : D.safe.length ≤ 4096
    · by_cases k3 : D.pend.length ≤ 5000
      · have g1 : decide ((D.safe.length : Int) < 1) = false := decide_eq_false (by omega)
        have g2 : decide ((4096 : Int) < D.safe.length) = false := decide_eq_false (by omega)
        have g3 : decide ((5000 : Int) < D.pend.length) = false := decide_eq_false (by omega)
        have g1' : decide (D.safe.length < 1) = false := decide_eq_false (by omega)
        have g2' : decide (4096 < D.safe.length) = false := decide_eq_false (by omega)
        have g3' : decide (5000 < D.pend.length) = false := decide_eq_false (by omega)
        go_enter Try.func36, Try.ntmps36
        go_wp2
        go_loop [4, 26] (fun _ i => ∃ j : Nat, j ≤ D.safe.length ∧ i = .int .i64 j ∧ Hid (∀ s ∈ D.safe.take j, s.length = 64)) (fun _ i => D.safe.length - (intOf i).toNat)
        case atStart => exact ⟨0, by omega, rfl, Lib.hid (by simp)⟩
        case round =>
          obtain ⟨j, hj, rfl, HA⟩ := hrel
          by_cases hlt : j < D.safe.length
          · obtain ⟨b, o, u, rfl, hSb, hbl, hcell, hr⟩ := h1.cellS j hlt
            obtain ⟨a, c, rfl, _, _⟩ := hr.form
            by_cases hc : D.safe[j].length = 64
            · have hne : ((D.safe[j].length : Int) != 64) = false := by simp [hc]
              have HC := Lib.hid hc
              clear hc hr
              go_wp2
              go_round
              case rel => exact ⟨j + 1, by omega, by go_num, Lib.hid (all_take_succ hlt HA.out HC.out)⟩
              case measure => simp [intOf]; omega
            · have hne : ((D.safe[j].length : Int) != 64) = true := by simp; omega
              have HC := Lib.hid hc
              clear hc hr
              go_wp2
              go_ret
              exact ⟨ret_bool (decide_eq_false (fun hk => not_all_get hlt HC.out hk.2.1)).symm, (Chg.refl _ _).alloc _⟩
          · have HAll := Lib.hid (all_of_take (by omega) HA.out)
            clear HA
            go_wp2
            go_loopw [6, 37] (fun _ i wr => ∃ j : Nat, j ≤ D.pend.length ∧ i = .int .i64 j ∧ Hid (∀ p ∈ D.pend.take j, 0 ≤ p.pos ∧ p.pos < D.safe.length ∧ p.data.length = 64) ∧ Chg [] (w.alloc (.cells #[.slice a1 D.safe.length c1, .slice a2 D.pend.length c2] 26)) wr) (fun _ i _ => D.pend.length - (intOf i).toNat)
            case atStart => exact ⟨0, by omega, rfl, Lib.hid (by simp), Chg.refl _ _⟩
            case round =>
              obtain ⟨q, hq, rfl, HP, hchg⟩ := hrel
              obtain ⟨hcc, hff⟩ := hchg.cells
              have hsz := hchg.size
              simp at hsz
              have hlw : w.heap.size < wr.heap.size := by omega
              have HC0 := Lib.hid (((Chg.refl [] w).alloc _).trans hchg)
              have HC1 := Lib.hid hchg
              clear hchg
              by_cases hql : q < D.pend.length
              · obtain ⟨b, o, u, rfl, hSb, hbl, hcell0, hcell1, hr⟩ := pend_cell (h2.up hS HC0.out) q hql
                obtain ⟨a, c, rfl, _, _⟩ := hr.form
                clear hr
                by_cases e1 : 0 ≤ D.pend[q].pos
                · have t1 : decide (D.pend[q].pos < 0) = false := decide_eq_false (by omega)
                  by_cases e2 : D.pend[q].pos < D.safe.length
                  · have t2 : decide ((D.safe.length : Int) ≤ D.pend[q].pos) = false := decide_eq_false (by omega)
                    by_cases e3 : D.pend[q].data.length = 64
                    · have t3 : ((D.pend[q].data.length : Int) != 64) = false := by simp [e3]
                      have HE := Lib.hid (show 0 ≤ D.pend[q].pos ∧ D.pend[q].pos < D.safe.length ∧ D.pend[q].data.length = 64 from ⟨e1, e2, e3⟩)
                      clear e3
                      go_wp2
                      go_roundw
                      case rel => exact ⟨q + 1, by omega, by go_num, Lib.hid (all_take_succ hql HP.out HE.out), HC1.out.alloc _⟩
                      case measure => simp [intOf]; omega
                    · have t3 : ((D.pend[q].data.length : Int) != 64) = true := by simp; omega
                      have HE := Lib.hid (show ¬ (0 ≤ D.pend[q].pos ∧ D.pend[q].pos < D.safe.length ∧ D.pend[q].data.length = 64) from fun h => e3 h.2.2)
                      clear e3
                      go_wp2
                      go_ret
                      exact ⟨ret_bool (decide_eq_false (fun hk => not_all_get hql HE.out hk.2.2)).symm, HC0.out.alloc _⟩
                  · have t2 : decide ((D.safe.length : Int) ≤ D.pend[q].pos) = true := decide_eq_true (by omega)
                    have HE := Lib.hid (show ¬ (0 ≤ D.pend[q].pos ∧ D.pend[q].pos < D.safe.length ∧ D.pend[q].data.length = 64) from fun h => e2 h.2.1)
                    go_wp2
                    go_ret
                    exact ⟨ret_bool (decide_eq_false (fun hk => not_all_get hql HE.out hk.2.2)).symm, HC0.out.alloc _⟩
                · have t1 : decide (D.pend[q].pos < 0) = true := decide_eq_true (by omega)
                  have HE := Lib.hid (show ¬ (0 ≤ D.pend[q].pos ∧ D.pend[q].pos < D.safe.length ∧ D.pend[q].data.length = 64) from fun h => e1 h.1)
                  go_wp2
                  go_ret
                  exact ⟨ret_bool (decide_eq_false (fun hk => not_all_get hql HE.out hk.2.2)).symm, HC0.out.alloc _⟩
              · have HPA := Lib.hid (all_of_take (by omega) HP.out)
                go_wp2
                go_ret
                exact ⟨ret_bool (decide_eq_true ⟨⟨k1, k2, k3⟩, HAll.out, HPA.out⟩).symm, HC0.out⟩
      · have g1 : decide ((D.safe.length : Int) < 1) = false := decide_eq_false (by omega)
        have g2 : decide ((4096 : Int) < D.safe.length) = false := decide_eq_false (by omega)
        have g3 : decide ((5000 : Int) < D.pend.length) = true := decide_eq_true (by omega)
        have g1' : decide (D.safe.length < 1) = false := decide_eq_false (by omega)
        have g2' : decide (4096 < D.safe.length) = false := decide_eq_false (by omega)
        have g3' : decide (5000 < D.pend.length) = true := decide_eq_true (by omega)
        go_enter Try.func36, Try.ntmps36
        go_wp2
        go_ret
        exact ⟨ret_bool (decide_eq_false (fun hk => k3 hk.1.2.2)).symm, (Chg.refl _ _).alloc _⟩
    · have g1 : decide ((D.safe.length : Int) < 1) = false := decide_eq_false (by omega)
      have g2 : decide ((4096 : Int) < D.safe.length) = true := decide_eq_true (by omega)
      have g1' : decide (D.safe.length < 1) = false := decide_eq_false (by omega)
      have g2' : decide (4096 < D.safe.length) = true := decide_eq_true (by omega)
      go_enter Try.func36, Try.ntmps36
      go_wp2
      go_ret
      exact ⟨ret_bool (decide_eq_false (fun hk => k2 hk.1.2.1)).symm, (Chg.refl _ _).alloc _⟩
  · have g1 : decide ((D.safe.length : Int) < 1) = true := decide_eq_true (by omega)
    have g1' : decide (D.safe.length < 1) = true := decide_eq_true (by omega)
    go_enter Try.func36, Try.ntmps36
    go_wp2
    go_ret
    exact ⟨ret_bool (decide_eq_false (fun hk => k1 hk.1.1)).symm, (Chg.refl _ _).alloc _⟩
end Go.Proofs.Ytjolhaefnloaoaa
