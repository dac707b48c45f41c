/- The laws' own helpers: copies of the arguments. -/
import Derived.Test.YtjolhaefnloaoaaProg
import Derived.Test.YtjolhaefnloaoaaL3
import Derived.Deep.QuietTactic
import Derived.BigQuiet
import Derived.RowKit3
import Derived.Lib.Hide
namespace Go.Proofs.Ytjolhaefnloaoaa
open Go.RowKit Sh

theorem info_u8 : (Try.prog.info? 5).map (fun i => (i.zero, i.size, i.bytes)) = some (some (.int .u8 0), 1, 1) := by kernel_rfl
theorem info_bytes : (Try.prog.info? 22).map (fun i => (i.zero, i.size, i.bytes)) = some (some (.slice none 0 0), 1, 24) := by kernel_rfl
theorem info_pend : (Try.prog.info? 121).map (fun i => (i.zero, i.size, i.bytes)) = some (some (.agg #[.int .i64 0, .slice none 0 0]), 2, 32) := by kernel_rfl

theorem take_rep_set {α : Type} (xs : List α) (z : α) (j : Nat) (h : j < xs.length) : (xs.take j ++ List.replicate (xs.length - j) z).set j xs[j] = xs.take (j + 1) ++ List.replicate (xs.length - (j + 1)) z := by
  have hl : (xs.take j).length = j := by simp; omega
  rw [List.set_append_right _ _ (by omega), hl, Nat.sub_self, show xs.length - j = (xs.length - (j + 1)) + 1 by omega, List.replicate_succ, List.set_cons_zero, List.take_succ_eq_append_getElem h, List.append_assoc]
  rfl

set_option maxHeartbeats 1000000 in
theorem toByteS_calls (v : Value) (xs : List UInt8) (S : Nat → Prop) (w : World) (h : SlRd byte S w v xs) (hS : ∀ b, S b → b < w.heap.size) (hx : xs.length ≤ 1048576) :
    Calls Try.prog 24 #[v] w fun e w' => ∃ v' F, e = .returned v' ∧ SlOwn byte 5 F w' v' xs ∧ F.Nodup ∧ (∀ b ∈ F, w.heap.size ≤ b) ∧ Chg [] w w' := by
  obtain ⟨a, c, rfl, hc1, hc2⟩ := h.form
  have hmk := make_fact (P := Try.prog) 22 5 (.int .u8 0) 1 1 Try.underlying22 info_u8 xs.length (by omega) (by omega)
  have hmade := Lib.hid (SlOwn.made (d := byte) (e := 5) (z := #[.int .u8 0]) (x := 0) w xs.length (by unfold maxLen; omega) rfl (fun _ => ⟨rfl, rfl⟩))
  go_enter Try.func24, Try.ntmps24
  go_wp2
  go_loopw [4] (fun i wr => ∃ j : Nat, j ≤ xs.length ∧ i = .int .i64 j ∧ SlOwn byte 5 [w.heap.size] wr (.slice (some ⟨w.heap.size, 0, none⟩) xs.length xs.length) (xs.take j ++ List.replicate (xs.length - j) 0) ∧ Chg [] w wr) (fun i _ => xs.length - (intOf i).toNat)
  case atStart => exact ⟨0, by omega, rfl, by simpa [byte_sz] using hmade.out, (Chg.refl _ _).alloc _⟩
  case round =>
    obtain ⟨j, hj, rfl, hown, hchg⟩ := hrel
    by_cases hlt : j < xs.length
    · have HO := Lib.hid hown
      have HC := Lib.hid hchg
      have hrd : SlRd byte S wr (.slice a xs.length c) xs := h.mono (fun _ hb => hb) (hchg.same (fun b hb => ⟨hS b hb, by simp⟩))
      obtain ⟨b, o, rfl, hSb, hbl, hcell⟩ := hrd.cell j hlt
      obtain ⟨b', hF, ha, hb, hcell', hfz⟩ := hown.store j (by simp; omega)
      cases ha
      have hne : b ≠ w.heap.size := by have := hS b hSb; omega
      clear hown hchg hrd hF
      go_wp2
      go_round
      case rel =>
        refine ⟨j + 1, by omega, by go_num, ?_, ?_⟩
        · have := HO.out.set j (by simp; omega) xs[j]
          rwa [take_rep_set xs 0 j hlt] at this
        · exact HC.out.setCell (.inr (Nat.le_refl _)) _
      case measure => simp [intOf]; omega
    · go_wp2
      go_ret
      obtain rfl : j = xs.length := by omega
      exact ⟨_, [w.heap.size], rfl, by simpa using hown, by simp, by simp, hchg⟩

set_option maxHeartbeats 1000000 in
theorem toByteSS_calls (v : Value) (xs : List (List UInt8)) (S : Nat → Prop) (w : World) (h : SlRd bytesSh S w v xs) (hS : ∀ b, S b → b < w.heap.size) (hx : szSS xs ≤ 1048576) :
    Calls Try.prog 53 #[v] w fun e w' => ∃ v' F, e = .returned v' ∧ SlOwn bytesSh 22 F w' v' xs ∧ F.Nodup ∧ (∀ b ∈ F, w.heap.size ≤ b) ∧ Chg [] w w' := by
  obtain ⟨a, c, rfl, hc1, hc2⟩ := h.form
  have hlen : xs.length ≤ 1048576 := by unfold szSS at hx; omega
  have hmk := make_fact (P := Try.prog) 23 22 (.slice none 0 0) 1 24 Try.underlying23 info_bytes xs.length (by omega) (by omega)
  have hmade := Lib.hid (SlOwn.made (d := bytesSh) (e := 22) (z := #[.slice none 0 0]) (x := []) w xs.length (by unfold maxLen; omega) rfl (fun w => ⟨_, rfl, SlOwn.nil _ _ w none⟩))
  go_enter Try.func53, Try.ntmps53
  go_wp2
  go_loopw [4] (fun i wr => ∃ j F, j ≤ xs.length ∧ i = .int .i64 (j : Nat) ∧ SlOwn bytesSh 22 F wr (.slice (some ⟨w.heap.size, 0, none⟩) xs.length xs.length) (xs.take j ++ List.replicate (xs.length - j) []) ∧ F.Nodup ∧ (∀ b ∈ F, w.heap.size ≤ b) ∧ Chg [] w wr) (fun i _ => xs.length - (intOf i).toNat)
  case atStart => exact ⟨0, _, by omega, rfl, by simpa [bytesSh_sz] using hmade.out, by simp, by simp, (Chg.refl _ _).alloc _⟩
  case round =>
    obtain ⟨j, F, hj, rfl, hown, hnd, hfr, hchg⟩ := hrel
    by_cases hlt : j < xs.length
    · have hrd : SlRd bytesSh S wr (.slice a xs.length c) xs := h.mono (fun _ hb => hb) (hchg.same (fun b hb => ⟨hS b hb, by simp⟩))
      have hS' : ∀ b, S b → b < wr.heap.size := fun b hb => Nat.lt_of_lt_of_le (hS b hb) hchg.size
      obtain ⟨b, o, u, rfl, hSb, hbl, hcell, hr⟩ := hrd.cellS j hlt
      have hsm : xs[j].length ≤ 1048576 := by
        have h1 := sumLen_take_succ xs j hlt
        have h2 := sumLen_take_le xs (j + 1)
        unfold szSS at hx; omega
      have HO := Lib.hid hown
      have HC := Lib.hid hchg
      have HF := Lib.hid hfr
      clear hown hchg hrd hfr
      go_wp2_with fail
      refine (toByteS_calls _ _ S _ hr hS' hsm).mono ?_
      rintro e w1 ⟨u', G, rfl, hG, hGn, hGf, hc1⟩
      obtain ⟨A', c', rfl, _, _⟩ := hG.rd.form
      have HO1 := Lib.hid (HO.out.mono (hc1.same (fun k hk => ⟨HO.out.lt k hk, by simp⟩)))
      obtain ⟨b', hbF, ha, hb, hst⟩ := HO1.out.storeE j (by simp; omega)
      cases ha
      obtain ⟨⟨q, hq⟩, hz⟩ := hst 0 (by decide)
      simp only [bytesSh_sz, Nat.mul_one, Nat.add_zero] at hq hz
      have HG := Lib.hid hG
      have HGf := Lib.hid hGf
      have HC1 := Lib.hid hc1
      clear hst hG hGf hc1
      go_wp2
      go_roundw
      case rel =>
        have hdis : ∀ k ∈ G, k ∉ F := fun k hk hm => by have := HGf.out k hk; have := HO.out.lt k hm; omega
        obtain ⟨F', k1, k2, k3, _⟩ := HO1.out.setE (G := G) (cs := [.slice A' _ c']) (x := xs[j]) j (by simp; omega) ⟨_, rfl, HG.out⟩ (fun hm => by have := HGf.out _ hm; have := HO.out.lt _ hbF; omega) hnd hGn hdis
        rw [take_rep_set xs [] j hlt] at k1
        refine ⟨j + 1, F', by omega, by go_num, ?_, k2, fun k hk => ?_, (HC.out.trans HC1.out).setCell (.inr (Nat.le_refl _)) _⟩
        · simpa [bytesSh_sz, putCells] using k1
        · rcases k3 k hk with hk | hk
          · exact HF.out k hk
          · exact Nat.le_trans HC.out.size (HGf.out k hk)
      case measure => simp [intOf]; omega
    · go_wp2
      go_ret
      obtain rfl : j = xs.length := by omega
      exact ⟨_, F, rfl, by simpa using hown, hnd, hfr, hchg⟩

set_option maxHeartbeats 1000000 in
theorem toPend_calls (p : Int) (u : Value) (xs : List UInt8) (S : Nat → Prop) (w : World) (h : SlRd byte S w u xs) (hS : ∀ b, S b → b < w.heap.size) (hx : xs.length ≤ 1048576) :
    Calls Try.prog 90 #[.agg #[.int .i64 p, u]] w fun e w' => ∃ u' F, e = .returned (.agg #[.int .i64 p, u']) ∧ SlOwn byte 5 F w' u' xs ∧ F.Nodup ∧ (∀ b ∈ F, w.heap.size ≤ b) ∧ Chg [] w w' := by
  go_enter Try.func90, Try.ntmps90
  go_wp2_with fail
  refine (toByteS_calls _ _ S _ (h.up hS ((((Chg.refl [] w).alloc _).alloc _).alloc _)) (fun b hb => by have := hS b hb; simp; omega) hx).mono ?_
  rintro e w1 ⟨u', G, rfl, hG, hGn, hGf, hc1⟩
  obtain ⟨A', c', rfl, _, _⟩ := hG.rd.form
  obtain ⟨hcc, hff⟩ := hc1.cells
  have hsz := hc1.size
  simp at hsz
  have HG := Lib.hid hG
  have HC := Lib.hid hc1
  have HF := Lib.hid hGf
  clear hG hc1 hGf
  go_wp2
  have hfar : ∀ k, k < w.heap.size + 1 + 1 + 1 → k ∉ G := fun k hk hm => by have := HF.out k hm; simp at this; omega
  exact bodyPost_ret (v := .agg #[.int .i64 p, .slice A' xs.length c']) (by simp [results, Try.results90, go_sem, hcc]) rfl
    ⟨_, G, rfl, ((HG.out.far (hfar _ (by dsimp only; omega)) _).far (hfar _ (by dsimp only; omega)) _).far (hfar _ (by dsimp only; omega)) _, hGn, fun k hk => by have := HF.out k hk; simp at this; omega,
      ((((((Chg.refl [] w).alloc _).alloc _).alloc _).trans HC.out).setCell (.inr (by simp; omega)) _ |>.setCell (.inr (by simp)) _).setCell (.inr (by simp)) _⟩

set_option maxHeartbeats 1000000 in
theorem toPendS_calls (v : Value) (xs : List PendD) (S : Nat → Prop) (w : World) (h : SlRd pendSh S w v xs) (hS : ∀ b, S b → b < w.heap.size) (hx : szPS xs ≤ 1048576) :
    Calls Try.prog 54 #[v] w fun e w' => ∃ v' F, e = .returned v' ∧ SlOwn pendSh 121 F w' v' xs ∧ F.Nodup ∧ (∀ b ∈ F, w.heap.size ≤ b) ∧ Chg [] w w' := by
  obtain ⟨a, c, rfl, hc1, hc2⟩ := h.form
  have hlen : xs.length ≤ 1048576 := by unfold szPS at hx; omega
  have hmk := make_fact (P := Try.prog) 24 121 (.agg #[.int .i64 0, .slice none 0 0]) 2 32 Try.underlying24 info_pend xs.length (by omega) (by omega)
  have hmade := Lib.hid (SlOwn.made (d := pendSh) (e := 121) (z := #[.int .i64 0, .slice none 0 0]) (x := ⟨0, []⟩) w xs.length (by unfold maxLen; omega) rfl (fun w => ⟨[_], [_], [], [], rfl, rfl, ⟨rfl, rfl⟩, _, rfl, SlOwn.nil _ _ w none⟩))
  go_enter Try.func54, Try.ntmps54
  go_wp2
  go_loopw [4] (fun i wr => ∃ j F, j ≤ xs.length ∧ i = .int .i64 (j : Nat) ∧ SlOwn pendSh 121 F wr (.slice (some ⟨w.heap.size, 0, none⟩) xs.length xs.length) (xs.take j ++ List.replicate (xs.length - j) ⟨0, []⟩) ∧ F.Nodup ∧ (∀ b ∈ F, w.heap.size ≤ b) ∧ Chg [] w wr) (fun i _ => xs.length - (intOf i).toNat)
  case atStart => exact ⟨0, _, by omega, rfl, by simpa [pendSh_sz] using hmade.out, by simp, by simp, (Chg.refl _ _).alloc _⟩
  case round =>
    obtain ⟨j, F, hj, rfl, hown, hnd, hfr, hchg⟩ := hrel
    by_cases hlt : j < xs.length
    · have hrd : SlRd pendSh S wr (.slice a xs.length c) xs := h.up hS hchg
      have hS' : ∀ b, S b → b < wr.heap.size := fun b hb => Nat.lt_of_lt_of_le (hS b hb) hchg.size
      obtain ⟨b, o, u, rfl, hSb, hbl, hcell, hcell2, hr⟩ := pend_cell hrd j hlt
      have hsm : xs[j].data.length ≤ 1048576 := by
        have h1 := sumLen_take_succ (xs.map PendD.data) j (by simpa using hlt)
        have h2 := sumLen_take_le (xs.map PendD.data) (j + 1)
        simp only [List.getElem_map] at h1
        unfold szPS at hx; omega
      have HO := Lib.hid hown
      have HC := Lib.hid hchg
      have HF := Lib.hid hfr
      clear hown hchg hrd hfr
      go_wp2_with fail
      refine (toPend_calls _ _ _ S _ hr hS' hsm).mono ?_
      rintro e w1 ⟨u', G, rfl, hG, hGn, hGf, hc1⟩
      obtain ⟨A', c', rfl, _, _⟩ := hG.rd.form
      have HO1 := Lib.hid (HO.out.up hc1)
      obtain ⟨b', hbF, ha, hb, hst⟩ := HO1.out.storeE j (by simp; omega)
      cases ha
      obtain ⟨⟨q, hq⟩, hz⟩ := hst 0 (by decide)
      obtain ⟨⟨q2, hq2⟩, hz2⟩ := hst 1 (by decide)
      simp only [pendSh_sz, Nat.add_zero] at hq hz hq2 hz2
      have HG := Lib.hid hG
      have HGf := Lib.hid hGf
      have HC1 := Lib.hid hc1
      clear hst hG hGf hc1
      go_wp2
      go_roundw
      case rel =>
        have hdis : ∀ k ∈ G, k ∉ F := fun k hk hm => by have := HGf.out k hk; have := HO.out.lt k hm; omega
        obtain ⟨F', k1, k2, k3, _⟩ := HO1.out.setE (G := G) (cs := [.int .i64 xs[j].pos, .slice A' _ c']) (x := xs[j]) j (by simp; omega) ⟨[_], [_], [], G, rfl, rfl, ⟨rfl, rfl⟩, _, rfl, HG.out⟩ (fun hm => by have := HGf.out _ hm; have := HO.out.lt _ hbF; omega) hnd hGn hdis
        rw [take_rep_set xs ⟨0, []⟩ j hlt] at k1
        refine ⟨j + 1, F', by omega, by go_num, ?_, k2, fun k hk => ?_, ((HC.out.trans HC1.out).setCell (.inr (Nat.le_refl _)) _).setCell (.inr (Nat.le_refl _)) _⟩
        · simpa [pendSh_sz, putCells] using k1
        · rcases k3 k hk with hk | hk
          · exact HF.out k hk
          · exact Nat.le_trans HC.out.size (HGf.out k hk)
      case measure => simp [intOf]; omega
    · go_wp2
      go_ret
      obtain rfl : j = xs.length := by omega
      exact ⟨_, F, rfl, by simpa using hown, hnd, hfr, hchg⟩

/-- A disk whose memory is its own. -/
def DiskOwn (F : List Nat) (w : World) (a b : Value) (D : DiskD) : Prop := ∃ F1 F2, F = F1 ++ F2 ∧ SlOwn bytesSh 22 F1 w a D.safe ∧ SlOwn pendSh 121 F2 w b D.pend
theorem DiskOwn.rd {F : List Nat} {w : World} {a b : Value} {D : DiskD} (h : DiskOwn F w a b D) : DiskRd (· ∈ F) w a b D := by
  obtain ⟨F1, F2, rfl, h1, h2⟩ := h
  exact ⟨h1.rd.mono (fun _ h => List.mem_append_left _ h) (Same.refl _ _), h2.rd.mono (fun _ h => List.mem_append_right _ h) (Same.refl _ _)⟩
theorem DiskOwn.lt {F : List Nat} {w : World} {a b : Value} {D : DiskD} (h : DiskOwn F w a b D) : ∀ k ∈ F, k < w.heap.size := by
  obtain ⟨F1, F2, rfl, h1, h2⟩ := h
  intro k hk
  rcases List.mem_append.1 hk with hk | hk
  · exact h1.lt k hk
  · exact h2.lt k hk
theorem DiskOwn.mono {F : List Nat} {w w' : World} {a b : Value} {D : DiskD} (h : DiskOwn F w a b D) (hs : Same (· ∈ F) w w') : DiskOwn F w' a b D := by
  obtain ⟨F1, F2, rfl, h1, h2⟩ := h
  exact ⟨F1, F2, rfl, h1.mono (hs.mono fun _ h => List.mem_append_left _ h), h2.mono (hs.mono fun _ h => List.mem_append_right _ h)⟩
theorem DiskOwn.up {F : List Nat} {w w' : World} {a b : Value} {D : DiskD} (h : DiskOwn F w a b D) (hc : Chg [] w w') : DiskOwn F w' a b D := h.mono (hc.same (fun b hb => ⟨h.lt b hb, by simp⟩))
theorem DiskRd.mono {S S' : Nat → Prop} {w w' : World} {a b : Value} {D : DiskD} (h : DiskRd S w a b D) (hS : ∀ b, S b → S' b) (hw : Same S w w') : DiskRd S' w' a b D := ⟨h.1.mono hS hw, h.2.mono hS hw⟩
theorem DiskRd.up {S : Nat → Prop} {w w' : World} {a b : Value} {D : DiskD} (h : DiskRd S w a b D) (hS : ∀ b, S b → b < w.heap.size) (hc : Chg [] w w') : DiskRd S w' a b D := ⟨h.1.up hS hc, h.2.up hS hc⟩

set_option maxHeartbeats 1000000 in
theorem toDisk_calls (v1 v2 : Value) (D : DiskD) (S : Nat → Prop) (w : World) (h : DiskRd S w v1 v2 D) (hS : ∀ b, S b → b < w.heap.size) (hx : szD D ≤ 1048576) :
    Calls Try.prog 16 #[.agg #[v1, v2]] w fun e w' => ∃ u1 u2 F, e = .returned (.agg #[u1, u2]) ∧ DiskOwn F w' u1 u2 D ∧ F.Nodup ∧ (∀ b ∈ F, w.heap.size ≤ b) ∧ Chg [] w w' := by
  have hx1 : szSS D.safe ≤ 1048576 := by unfold szD at hx; omega
  have hx2 : szPS D.pend ≤ 1048576 := by unfold szD at hx; omega
  go_enter Try.func16, Try.ntmps16
  go_wp2_with fail
  refine (toByteSS_calls _ _ S _ (h.1.up hS ((((Chg.refl [] w).alloc _).alloc _).alloc _)) (fun b hb => by have := hS b hb; simp; omega) hx1).mono ?_
  rintro e w1 ⟨u1, G1, rfl, hG1, hGn1, hGf1, hc1⟩
  obtain ⟨A1, c1, rfl, _, _⟩ := hG1.rd.form
  obtain ⟨hcc1, hff1⟩ := hc1.cells
  have hsz1 := hc1.size
  simp at hsz1
  have HG1 := Lib.hid hG1
  have HC1 := Lib.hid hc1
  have HF1 := Lib.hid hGf1
  have HR := Lib.hid h.2
  clear hG1 hc1 hGf1 h
  go_wp2_with fail
  have HCa := Lib.hid (((((Chg.refl [] w).alloc _).alloc _).alloc _).trans HC1.out |>.setCell (p := ⟨w.heap.size + 1 + 1, 0, none⟩) (.inr (by simp; omega)) (.slice A1 D.safe.length c1))
  refine (toPendS_calls _ _ S _ (HR.out.up hS HCa.out) (fun b hb => Nat.lt_of_lt_of_le (hS b hb) HCa.out.size) hx2).mono ?_
  rintro e w2 ⟨u2, G2, rfl, hG2, hGn2, hGf2, hc2⟩
  obtain ⟨A2, c2, rfl, _, _⟩ := hG2.rd.form
  obtain ⟨hcc2, hff2⟩ := hc2.cells
  have hsz2 := hc2.size
  simp at hsz2
  have HG2 := Lib.hid hG2
  have HC2 := Lib.hid hc2
  have HF2 := Lib.hid hGf2
  clear hG2 hc2 hGf2
  have hl1 : w.heap.size + 1 + 1 < w1.heap.size := by omega
  have hl2 : w.heap.size + 1 + 1 < w2.heap.size := by omega
  have hl3 : w.heap.size + 1 < w1.heap.size := by omega
  have hl4 : w.heap.size + 1 < w2.heap.size := by omega
  go_wp2
  have hfar1 : ∀ k, k < w.heap.size + 1 + 1 + 1 → k ∉ G1 := fun k hk hm => by have := HF1.out k hm; simp at this; omega
  have hfar2 : ∀ k, k < w.heap.size + 1 + 1 + 1 → k ∉ G2 := fun k hk hm => by have := HF2.out k hm; simp at this; omega
  have hG1' := (((HG1.out.far (p := ⟨w.heap.size + 1 + 1, 0, none⟩) (hfar1 _ (by dsimp only; omega)) _).up HC2.out).far (p := ⟨w.heap.size + 1 + 1, 1, none⟩) (hfar1 _ (by dsimp only; omega)) (.slice A2 D.pend.length c2) |>.far (p := ⟨w.heap.size + 1, 0, none⟩) (hfar1 _ (by dsimp only; omega)) (.slice A1 D.safe.length c1)).far (p := ⟨w.heap.size + 1, 1, none⟩) (hfar1 _ (by dsimp only; omega)) (.slice A2 D.pend.length c2)
  have hG2' := ((HG2.out.far (p := ⟨w.heap.size + 1 + 1, 1, none⟩) (hfar2 _ (by dsimp only; omega)) (.slice A2 D.pend.length c2)).far (p := ⟨w.heap.size + 1, 0, none⟩) (hfar2 _ (by dsimp only; omega)) (.slice A1 D.safe.length c1)).far (p := ⟨w.heap.size + 1, 1, none⟩) (hfar2 _ (by dsimp only; omega)) (.slice A2 D.pend.length c2)
  refine bodyPost_ret (v := .agg #[.slice A1 D.safe.length c1, .slice A2 D.pend.length c2]) (by simp [results, Try.results16, go_sem, hcc2, hcc1, hl3]) rfl
    ⟨_, _, G1 ++ G2, rfl, ⟨G1, G2, rfl, hG1', hG2'⟩, ?_, fun k hk => ?_, (((HCa.out.trans HC2.out).setCell (.inr (by simp; omega)) _).setCell (.inr (by simp)) _).setCell (.inr (by simp)) _⟩
  · rw [List.nodup_append]
    exact ⟨hGn1, hGn2, fun a ha b hb e => by subst e; have h1 := HG1.out.lt a ha; have h2 := HF2.out a hb; simp at h2; omega⟩
  · rcases List.mem_append.1 hk with hk | hk
    · have := HF1.out k hk; simp at this; omega
    · have := HF2.out k hk; simp at this; omega
end Go.Proofs.Ytjolhaefnloaoaa
