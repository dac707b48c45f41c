/- The reference's pages: written. -/
import Derived.Test.YtjolhaefnloaoaaB3
namespace Go.Proofs.Ytjolhaefnloaoaa
open Go.RowKit Sh

abbrev encU (x : UInt8) : Value := .int .u8 (x.toNat : Int)
abbrev BRow (B : List Nat) (w : World) (v : Value) (xs : List UInt8) : Prop := Row (fun cs (x : UInt8) => cs = [encU x]) 1 5 B w v xs

set_option maxRecDepth 100000 in
set_option maxHeartbeats 2000000 in
theorem spec_EncodePage_yes (id kind : Nat) (v : Value) (body : List UInt8) (S : Nat → Prop) (w : World) (h : SlRd byte S w v body) (hS : ∀ b, S b → b < w.heap.size) (hid : id ≤ 1023) (hk1 : 1 ≤ kind) (hk4 : kind ≤ 4) (hb : body.length ≤ 240) :
    Calls Try.prog 76 #[.int .i64 id, .int .i64 kind, v] w fun e w' => ∃ v' F, e = .returned (.tuple #[v', .bool true]) ∧ SlOwn byte 5 F w' v' (encP id kind body) ∧ F.Nodup ∧ (∀ b ∈ F, w.heap.size ≤ b) ∧ Chg [] w w' := by
  obtain ⟨a, c, rfl, hc1, _⟩ := h.form
  have g1 : decide ((id : Int) < 0) = false := decide_eq_false (by omega)
  have g2 : decide ((1023 : Int) < id) = false := decide_eq_false (by omega)
  have g3 : decide ((kind : Int) < 1) = false := decide_eq_false (by omega)
  have g4 : decide ((4 : Int) < kind) = false := decide_eq_false (by omega)
  have g5 : decide ((240 : Int) < body.length) = false := decide_eq_false (by omega)
  have g1' : decide (id < 0) = false := decide_eq_false (by omega)
  have g2' : decide (1023 < id) = false := decide_eq_false (by omega)
  have g3' : decide (kind < 1) = false := decide_eq_false (by omega)
  have g4' : decide (4 < kind) = false := decide_eq_false (by omega)
  have g5' : decide (240 < body.length) = false := decide_eq_false (by omega)
  go_enter Try.func76, Try.ntmps76
  go_wp2_with fail
  refine (spec_l2Num_calls id 4 _ (by omega) (by omega)).mono ?_
  rintro e w1 ⟨v1, F1, rfl, k1, _, f1, c1⟩
  have HM1 := Lib.hid (Mine.of k1 f1 c1)
  have HL1 := Lib.hid (numB_length 4 id)
  clear k1 f1 c1
  go_wp2_with (at_builtin; refine wpList_mineL (enc := encU) rfl _ _ 22 rfl 5 _ (numB id 4) [UInt8.ofNat kind, 0] v1 _ 2 rfl rfl HM1.out (by simp [encU]; omega) rfl (fun _ => rfl) (.int .u8 0) 1 Try.underlying22 info_u8 rfl (by rw [HL1.out]; simp) (by rw [HL1.out]; simp) ?_)
  intro v2 w2 hm2
  have HM2 := Lib.hid hm2
  have HL2 := Lib.hid (show (numB id 4 ++ [UInt8.ofNat kind, 0]).length = 6 by simp [numB_length])
  generalize hp2 : numB id 4 ++ [UInt8.ofNat kind, 0] = p2 at HM2 HL2
  have HP2 := Lib.hid hp2
  clear hm2 HM1 HL1 hp2
  go_wp2_with fail
  refine (spec_l2Num_calls body.length 2 _ (by omega) (by omega)).mono ?_
  rintro e w3 ⟨v3, F3, rfl, k3, _, f3, c3⟩
  have HM3 := Lib.hid (HM2.out.up c3)
  have K3 := Lib.hid k3.rd
  have HL3 := Lib.hid (numB_length 2 body.length)
  clear k3 f3 c3 HM2
  go_wp2_with (at_builtin; refine wpList_mineS (enc := encU) rfl _ _ 22 22 5 rfl Try.underlying22 5 p2 (numB body.length 2) _ v2 v3 rfl rfl HM3.out K3.out (.int .u8 0) 1 Try.underlying22 info_u8 rfl (by rw [HL2.out, HL3.out]; simp) (by rw [HL2.out, HL3.out]; simp) ?_)
  intro v4 w4 hm4
  have HM4 := Lib.hid hm4
  have HL4 := Lib.hid (show (p2 ++ numB body.length 2).length = 8 by rw [List.length_append, HL2.out, HL3.out])
  generalize hp4 : p2 ++ numB body.length 2 = p4 at HM4 HL4
  have HP4 := Lib.hid hp4
  clear hm4 HM3 K3 HL2 HL3 hp4
  go_wp2_with (at_builtin; refine wpList_mineL (enc := encU) rfl _ _ 22 rfl 5 _ p4 [0, 0, 0, 0] v4 _ 4 rfl rfl HM4.out (by simp [encU]) rfl (fun _ => rfl) (.int .u8 0) 1 Try.underlying22 info_u8 rfl (by rw [HL4.out]; simp) (by rw [HL4.out]; simp) ?_)
  intro v5 w5 hm5
  have HM5 := Lib.hid hm5
  have HL5 := Lib.hid (show (p4 ++ [0, 0, 0, 0]).length = 12 by rw [List.length_append, HL4.out]; rfl)
  generalize hp5 : p4 ++ [0, 0, 0, 0] = p5 at HM5 HL5
  have HP5 := Lib.hid hp5
  have HBd := Lib.hid (h.up hS HM5.out.chg)
  clear hm5 HM4 HL4 hp5
  go_wp2_with (at_builtin; refine wpList_mineS (enc := encU) rfl _ _ 22 22 5 rfl Try.underlying22 5 p5 body _ v5 _ rfl rfl HM5.out HBd.out (.int .u8 0) 1 Try.underlying22 info_u8 rfl (by rw [HL5.out]; omega) (by rw [HL5.out]; omega) ?_)
  intro v6 w6 hm6
  have HR := Lib.hid (show p5 ++ body = restP id kind body by rw [← HP5.out, ← HP4.out, ← HP2.out]; rfl)
  rw [HR.out] at hm6
  have HLr := Lib.hid (restP_length id kind body)
  generalize restP id kind body = rest at hm6 HR HLr
  have HM6 := Lib.hid hm6
  clear hm6 HM5 HL5 HBd
  go_wp2
  go_loopw [8] (fun u wr => ∃ j : Nat, rest.length + j ≤ 252 ∧ Hid (Mine encU 5 w wr u (rest ++ List.replicate j 0))) (fun u _ => 252 - lenOfV u)
  case atStart => exact ⟨0, by rw [HLr.out]; omega, Lib.hid (by simpa using HM6.out)⟩
  case round =>
    obtain ⟨j, hj, HM⟩ := hrel
    obtain ⟨a8, c8, hv8, hc8, _⟩ := HM.out.form
    have HLj := Lib.hid (show (rest ++ List.replicate j (0 : UInt8)).length = rest.length + j by simp)
    rw [HLj.out] at hv8 hc8
    subst hv8
    by_cases hlt : rest.length + j < 252
    · go_wp2_with (at_builtin; refine wpList_mineL (enc := encU) rfl _ _ 22 rfl 5 _ (rest ++ List.replicate j 0) [0] _ _ 1 rfl rfl HM.out (by simp [encU]) rfl (fun _ => rfl) (.int .u8 0) 1 Try.underlying22 info_u8 rfl (by rw [HLj.out]; simp; omega) (by rw [HLj.out]; simp; omega) ?_)
      intro v7 w7 hm7
      obtain ⟨a7, c7, hv7, _, _⟩ := hm7.form
      have HM7 := Lib.hid hm7
      have HV7 := Lib.hid (show v7 = Value.slice a7 (rest.length + (j + 1)) c7 by rw [hv7]; congr 1; simp)
      clear hm7 hv7
      go_wp2
      go_roundw
      case rel => exact ⟨j + 1, by omega, Lib.hid (by rw [List.replicate_succ']; exact HM7.out)⟩
      case measure => rw [HV7.out]; simp [lenOfV]; omega
    · have HP := Lib.hid (show rest ++ List.replicate j (0 : UInt8) = padP rest by unfold padP; congr 2; omega)
      rw [HP.out] at HM
      have HLp := Lib.hid (padP_length (l := rest) (by rw [HLr.out]; omega))
      have HRest := Lib.hid (show padP (restP id kind body) = padP rest by rw [← HR.out, ← HP5.out, ← HP4.out, ← HP2.out]; rfl)
      generalize padP rest = pad at HM HLp HRest
      have hcr := crcB_small pad
      go_wp2_with fail
      refine (spec_Crc32_calls _ pad _ _ HM.out.rd).mono ?_
      rintro e w8 ⟨rfl, rfl⟩
      have HCr := Lib.hid (show crcB (padP (restP id kind body)) = crcB pad by rw [HRest.out])
      generalize crcB pad = cr at hcr HCr
      go_wp2_with fail
      refine (spec_l2Num_calls cr 4 _ (by omega) (by omega)).mono ?_
      rintro e w9 ⟨v9, F9, rfl, k9, _, f9, c9⟩
      have HM9 := Lib.hid (Mine.of k9 (fun b hb => Nat.le_trans HM.out.chg.size (f9 b hb)) (HM.out.chg.trans c9))
      have HS := Lib.hid (show SlRd byte _ _ _ pad from (HM.out.up c9).rd)
      have HL9 := Lib.hid (numB_length 4 cr)
      clear k9 f9 c9
      go_wp2_with (at_builtin; refine wpList_mineS (enc := encU) rfl _ _ 22 22 5 rfl Try.underlying22 5 (numB cr 4) pad _ v9 _ rfl rfl HM9.out HS.out (.int .u8 0) 1 Try.underlying22 info_u8 rfl (by rw [HL9.out, HLp.out]; simp) (by rw [HL9.out, HLp.out]; simp) ?_)
      intro v10 w10 hm10
      have HM10 := Lib.hid hm10
      clear hm10
      go_wp2
      go_ret2
      have HE := show numB cr 4 ++ pad = encP id kind body by unfold encP; rw [HCr.out, HRest.out]
      have hm := HM10.out
      rw [HE] at hm
      obtain ⟨F, m1, m2, m3, m4⟩ := hm.own (h1 := fun _ => rfl)
      exact ⟨_, F, rfl, m1, m2, m3, m4⟩
end Go.Proofs.Ytjolhaefnloaoaa
