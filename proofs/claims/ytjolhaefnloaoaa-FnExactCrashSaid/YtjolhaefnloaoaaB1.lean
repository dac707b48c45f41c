/- The reference's bytes: numbers, the checksum, sameness, copies. -/
import Derived.Test.YtjolhaefnloaoaaProg
import Derived.Test.YtjolhaefnloaoaaL5
import Derived.Test.YtjolhaefnloaoaaM1
import Derived.Test.YtjolhaefnloaoaaA2
import Derived.Deep.QuietTactic
import Derived.BigQuiet
import Derived.StillTailTactics
import Derived.RowKit3
import Derived.Lib.Hide
namespace Go.Proofs.Ytjolhaefnloaoaa
open Go.RowKit Sh

set_option maxRecDepth 100000 in
set_option maxHeartbeats 1000000 in
theorem spec_Crc32_calls (v : Value) (xs : List UInt8) (S : Nat → Prop) (w : World) (h : SlRd byte S w v xs) :
    Calls Try.prog 100 #[v] w fun e w' => e = .returned (.int .i64 (crcB xs)) ∧ w = w' := by
  obtain ⟨a, c, rfl, _, _⟩ := h.form
  have hb := h.bound
  go_enter Try.func100, Try.ntmps100
  go_wp2
  go_loop [3, 4] (fun hh i => ∃ j : Nat, j ≤ xs.length ∧ hh = .int .i64 (crcFold crcInit (xs.take j) : Nat) ∧ i = .int .i64 j) (fun _ i => xs.length - (intOf i).toNat)
  case atStart => exact ⟨0, by omega, rfl, rfl⟩
  case round =>
    obtain ⟨j, hj, rfl, rfl⟩ := hrel
    by_cases hlt : j < xs.length
    · obtain ⟨b, o, rfl, _, hbl, hcell⟩ := h.cell j hlt
      have hcl := crcFold_small (xs.take j) crcInit_lt
      have hbt : (xs[j]).toNat < 256 := (xs[j]).toNat_lt
      have HS := Lib.hid (show crcFold crcInit (xs.take (j + 1)) = crcIter 8 (crcFold crcInit (xs.take j) ^^^ (xs[j]).toNat) by rw [take_snoc xs j hlt, crcFold_snoc]; rfl)
      generalize crcFold crcInit (xs.take j) = g at hcl HS
      generalize (xs[j]).toNat = bn at hcell hbt HS
      have hx := xor_i64 g bn hcl (byte_small hbt)
      have hw := wrap_byte hbt
      have hgl := xor_small hcl (byte_small hbt)
      generalize g ^^^ bn = g1 at hx hgl HS
      go_wp2
      clear hx hw
      go_loop [3, 5, 6] (fun hh i _ => ∃ k : Nat, k ≤ 8 ∧ hh = .int .i64 (crcIter k g1 : Nat) ∧ i = .int .i64 k) (fun _ i _ => 8 - (intOf i).toNat)
      case atStart => exact ⟨0, by omega, rfl, rfl⟩
      case round =>
        obtain ⟨k, hk, rfl, rfl⟩ := hrel
        by_cases hk8 : k < 8
        · have hil := crcIter_small hgl k
          have HI := Lib.hid (show crcIter (k + 1) g1 = crcStep (crcIter k g1) from rfl)
          generalize crcIter k g1 = q at hil HI
          by_cases ho : (q : Int) % 2 = 1
          · have ho' : ((q : Int) % 2 == 1) = true := by simpa using ho
            have hx := crcStep_odd ho hil
            have HO := Lib.hid ho
            clear ho
            go_wp2
            go_round
            case rel => exact ⟨k + 1, by omega, by rw [HI.out], by go_num⟩
            case measure => simp [intOf]; omega
          · have ho' : ((q : Int) % 2 == 1) = false := by simpa using ho
            have HE := Lib.hid (crcStep_even ho)
            clear ho
            go_wp2
            go_round
            case rel => exact ⟨k + 1, by omega, by rw [HI.out, ← HE.out], by go_num⟩
            case measure => simp [intOf]; omega
        · obtain rfl : k = 8 := by omega
          rw [← HS.out]
          go_wp2
          go_round
          case rel => exact ⟨j + 1, by omega, rfl, by go_num⟩
          case measure => simp [intOf]; omega
    · obtain rfl : j = xs.length := by omega
      rw [List.take_length]
      have hx := crcLast (crcFold_small xs crcInit_lt)
      have HB := Lib.hid (show crcB xs = crcFold crcInit xs ^^^ 4294967295 from rfl)
      go_wp2
      go_ret
      exact ⟨ret_int (by rw [HB.out]), rfl⟩

set_option maxRecDepth 100000 in
set_option maxHeartbeats 1000000 in
theorem spec_l1Bytes_calls (v : Value) (xs : List UInt8) (S : Nat → Prop) (w : World) (h : SlRd byte S w v xs) (hS : ∀ b, S b → b < w.heap.size) (hx : xs.length ≤ 1000000000) :
    Calls Try.prog 63 #[v] w fun e w' => ∃ v' F, e = .returned v' ∧ SlOwn byte 5 F w' v' xs ∧ F.Nodup ∧ (∀ b ∈ F, w.heap.size ≤ b) ∧ Chg [] w w' := by
  obtain ⟨a, c, rfl, _, _⟩ := h.form
  go_enter Try.func63, Try.ntmps63
  obtain ⟨news, hsrc, hel⟩ := Src.ofRd (P := Try.prog) Try.underlying22 (h.up hS ((Chg.refl [] w).alloc (.cells #[] 5)))
  go_wp2_with (at_builtin; refine wpList_row rfl _ _ 22 22 rfl (fun cs (x : UInt8) => cs = [.int .u8 (x.toNat : Int)]) 1 5 [] [] xs _ _ rfl rfl (Row.nil _ _ _ _ _) (by decide) (.int .u8 0) 1 Try.underlying22 info_u8 rfl news hsrc hel ?_ ?_ ?_)
  · simp; omega
  · simp; omega
  intro v' w1 B' hrow hchg hB
  have HR := Lib.hid hrow
  have HC := Lib.hid hchg
  have HB := Lib.hid hB
  clear hrow hchg hB
  go_wp2
  go_ret
  exact ⟨_, B', rfl, HR.out.own, HR.out.nodup, fun k hk => by have := HB.out k hk; omega, ((Chg.refl [] w).alloc _).trans HC.out⟩

set_option maxRecDepth 100000 in
set_option maxHeartbeats 1000000 in
theorem spec_l2Low_calls (v : Value) (xs : List UInt8) (S : Nat → Prop) (w : World) (h : SlRd byte S w v xs) (hx : xs.length ≤ 7) :
    Calls Try.prog 72 #[v] w fun e w' => e = .returned (.int .i64 (lowB xs)) ∧ w = w' := by
  obtain ⟨a, c, rfl, _, _⟩ := h.form
  go_enter Try.func72, Try.ntmps72
  go_wp2
  go_loop [3, 4] (fun l i => ∃ j : Nat, j ≤ xs.length ∧ l = .int .i64 (lowB (xs.drop j) : Nat) ∧ i = .int .i64 ((j : Int) - 1)) (fun _ i => (intOf i + 1).toNat)
  case atStart => exact ⟨xs.length, by omega, by simp [lowB], rfl⟩
  case round =>
    obtain ⟨j, hj, rfl, rfl⟩ := hrel
    rcases j with _ | j
    · go_wp2
      go_ret
      exact ⟨rfl, rfl⟩
    · have hlt : j < xs.length := by omega
      obtain ⟨b, o, rfl, _, hbl, hcell⟩ := h.cell j hlt
      have HL := Lib.hid (lowB_drop xs j hlt)
      have hsm := lowB_small6 (xs.drop (j + 1)) (by simp; omega)
      have hbt : (xs[j]).toNat < 256 := (xs[j]).toNat_lt
      generalize lowB (xs.drop (j + 1)) = l at hsm HL
      generalize (xs[j]).toNat = bn at hcell hbt HL
      have hw := wrap_byte hbt
      go_wp2
      go_round
      case rel => exact ⟨j, by omega, by rw [HL.out]; congr 1; omega, by congr 1⟩
      case measure => simp [intOf]

set_option maxRecDepth 100000 in
set_option maxHeartbeats 1000000 in
theorem spec_l2Num_calls (v n : Nat) (w : World) (hv : v < 4611686018427387904) (hn : n ≤ 1000) :
    Calls Try.prog 77 #[.int .i64 v, .int .i64 n] w fun e w' => ∃ v' F, e = .returned v' ∧ SlOwn byte 5 F w' v' (numB v n) ∧ F.Nodup ∧ (∀ b ∈ F, w.heap.size ≤ b) ∧ Chg [] w w' := by
  go_enter Try.func77, Try.ntmps77
  go_wp2
  go_loopw [0, 5, 6] (fun q u i wr => ∃ (j : Nat) (B : List Nat), j ≤ n ∧ q = .int .i64 (v / 256 ^ j : Nat) ∧ i = .int .i64 j ∧ Row (fun cs (x : UInt8) => cs = [.int .u8 (x.toNat : Int)]) 1 5 B wr u (numB v j) ∧ (∀ b ∈ B, w.heap.size ≤ b) ∧ Chg [] w wr) (fun _ _ i _ => n - (intOf i).toNat)
  case atStart => exact ⟨0, [], by omega, by simp, rfl, Row.nil _ _ _ _ _, by simp, (Chg.refl _ _).alloc _⟩
  case round =>
    obtain ⟨j, B, hj, rfl, rfl, hrow, hB, hchg⟩ := hrel
    by_cases hlt : j < n
    · have HR := Lib.hid hrow
      have HB := Lib.hid hB
      have HC := Lib.hid hchg
      have hq : v / 256 ^ j < 4611686018427387904 := Nat.lt_of_le_of_lt (Nat.div_le_self _ _) hv
      have HS := Lib.hid (numB_snoc j v)
      have HP := Lib.hid (show v / 256 ^ (j + 1) = v / 256 ^ j / 256 by rw [Nat.div_div_eq_div_mul, Nat.pow_succ])
      have HL := Lib.hid (numB_length j v)
      clear hrow hB hchg
      generalize v / 256 ^ j = q at hq HS HP
      go_wp2_with (at_builtin; refine wpList_app1 (enc := fun (x : UInt8) => .int .u8 (x.toNat : Int)) rfl _ _ 22 rfl 5 _ B (numB v j) (UInt8.ofNat (q % 256)) u5 _ rfl rfl HR.out (congrArg (Value.int .u8) (byte_mod q).symm) rfl (.int .u8 0) 1 Try.underlying22 info_u8 rfl (by rw [HL.out]; omega) (by rw [HL.out]; omega) ?_)
      intro v' w1 B' hrow hchg hB
      have HR1 := Lib.hid hrow
      have HC1 := Lib.hid hchg
      have HB1 := Lib.hid hB
      clear hrow hchg hB
      go_wp2
      go_roundw
      case rel =>
        refine ⟨j + 1, B', by omega, by rw [HP.out]; congr 1, by go_num, by rw [HS.out]; exact HR1.out, fun k hk => ?_, HC.out.step HC1.out (fun b hb => .inr (HB.out b hb))⟩
        rcases HB1.out k hk with h | h
        · exact HB.out k h
        · exact Nat.le_trans HC.out.size h
      case measure => simp [intOf]; omega
    · obtain rfl : j = n := by omega
      go_wp2
      go_ret
      exact ⟨_, B, rfl, hrow.own, hrow.nodup, hB, hchg⟩
end Go.Proofs.Ytjolhaefnloaoaa
