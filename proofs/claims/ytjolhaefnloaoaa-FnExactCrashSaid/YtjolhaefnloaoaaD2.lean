/- The program's copies: slices.Clone, a disk's clone. -/
import Derived.Test.YtjolhaefnloaoaaD1
import Derived.WalkSpells
namespace Go.Proofs.Ytjolhaefnloaoaa
open Go.RowKit Sh

set_option maxRecDepth 100000 in
set_option maxHeartbeats 1000000 in
theorem clone_calls (v : Value) (xs : List UInt8) (S : Nat → Prop) (w : World) (h : SlRd byte S w v xs) (hS : ∀ b, S b → b < w.heap.size) (hx : xs.length ≤ 1000000000) :
    Calls Try.prog 82 #[v] w fun e w' => ∃ v' F, e = .returned v' ∧ SlOwn byte 5 F w' v' xs ∧ F.Nodup ∧ (∀ b ∈ F, w.heap.size ≤ b) ∧ Chg [] w w' := by
  obtain ⟨a, c, rfl, _, _⟩ := h.form
  cases a with
  | none =>
    have hx0 : xs = [] := by
      rcases Nat.eq_zero_or_pos xs.length with h0 | h0
      · exact List.eq_nil_of_length_eq_zero h0
      · obtain ⟨b, o, hb⟩ := h.addr h0; cases hb
    subst hx0
    have hnil := fun w => Lib.run_eql_slice_nil (P := Try.prog) w 22 5 none 0 c 0 0 Try.underlying22
    go_enter Try.func82, Try.ntmps82
    go_wp2
    go_ret
    exact ⟨_, [], rfl, SlOwn.nil _ _ _ _, by simp, by simp, Chg.refl _ _⟩
  | some p =>
    have hnil := fun w => Lib.run_eql_slice_nil (P := Try.prog) w 22 5 (some p) xs.length c 0 0 Try.underlying22
    go_enter Try.func82, Try.ntmps82
    obtain ⟨news, hsrc, hel⟩ := Src.ofRd (P := Try.prog) Try.underlying22 (h.up hS ((Chg.refl [] w).alloc (.cells #[] 5)))
    go_wp2_with (at_builtin; refine wpList_row rfl _ _ 22 22 rfl (fun cs (x : UInt8) => cs = [.int .u8 (x.toNat : Int)]) 1 5 [] [] xs _ _ rfl rfl (Row.nil _ _ _ _ _) (by decide) (.int .u8 0) 1 Try.underlying22 info_u8 rfl news hsrc hel ?_ ?_ ?_)
    · simp; omega
    · simp; omega
    intro v' w1 B' hrow hchg hB
    have HR := Lib.hid hrow
    have HC := Lib.hid hchg
    have HB := Lib.hid hB
    clear hrow hchg hB
    go_wp2
    go_ret
    exact ⟨_, B', rfl, HR.out.own, HR.out.nodup, fun k hk => by have := HB.out k hk; omega, ((Chg.refl [] w).alloc _).trans HC.out⟩
end Go.Proofs.Ytjolhaefnloaoaa
