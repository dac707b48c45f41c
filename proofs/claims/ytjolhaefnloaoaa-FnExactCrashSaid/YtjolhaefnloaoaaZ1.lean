/- At every disk and choice bytes the program's Crash answers as the reference's: the law is true. -/
import Derived.Test.YtjolhaefnloaoaaE5
import Derived.Test.YtjolhaefnloaoaaA3
import Derived.Test.YtjolhaefnloaoaaA4
import Derived.Test.YtjolhaefnloaoaaL10
namespace Go.Proofs.Ytjolhaefnloaoaa
open Go.RowKit Sh

/-- A slot of the frame that holds a disk's two slices. -/
abbrev dBox (a b : Value) : Obj := .cells #[a, b] 26 (0, 0)

theorem DiskOwn.off {F G : List Nat} {w w' : World} {a b : Value} {D : DiskD} (h : DiskOwn F w a b D) (hc : Chg G w w') (hG : ∀ b ∈ F, b ∉ G) : DiskOwn F w' a b D := h.mono (hc.same fun b hb => ⟨h.lt b hb, hG b hb⟩)
theorem DiskOwn.rdIn {F : List Nat} {w : World} {a b : Value} {D : DiskD} (h : DiskOwn F w a b D) : DiskRd (fun k => k < w.heap.size) w a b D := h.rd.mono (fun k hk => h.lt k hk) (Same.refl _ _)
theorem Sh.SlOwn.rdIn {α : Type} {d : Sh α} {e : TypeId} {F : List Nat} {w : World} {v : Value} {xs : List α} (h : SlOwn d e F w v xs) : SlRd d (fun k => k < w.heap.size) w v xs := h.rd.mono (fun k hk => h.lt k hk) (Same.refl _ _)

theorem sumLen_const : ∀ {xs : List (List UInt8)}, (∀ x ∈ xs, x.length = 64) → sumLen xs = 64 * xs.length
  | [], _ => rfl
  | x :: xs, h => by
    have h1 := sumLen_const (xs := xs) (fun y hy => h y (by simp [hy]))
    have h2 := h x (by simp)
    unfold sumLen at *
    simp only [List.map_cons, List.sum_cons, List.length_cons]
    omega
theorem crashStep_all {ps : List PendD} {ch : List UInt8} (hp : ∀ p ∈ ps, p.data.length = 64) {s : Nat × List (List UInt8)} {a : Nat} (h : ∀ x ∈ s.2, x.length = 64) : ∀ x ∈ (crashStep ps ch s a).2, x.length = 64 := by
  unfold crashStep
  split
  · exact h
  · rename_i h0
    simp only
    split
    · exact h
    · rename_i hj
      intro x hx
      rcases List.mem_or_eq_of_mem_set hx with hx | rfl
      · exact h x hx
      · have hlt : crashJ ps ch s.1 a < (idxOf ps a).length + 1 := Nat.mod_lt _ (by omega)
        have hm : (idxOf ps a).getD (crashJ ps ch s.1 a - 1) 0 ∈ idxOf ps a := by
          rw [List.getD_eq_getElem?_getD, List.getElem?_eq_getElem (by omega : crashJ ps ch s.1 a - 1 < (idxOf ps a).length)]
          exact List.getElem_mem _
        obtain ⟨hl, _⟩ := idxOf_lt hm
        rw [datum_eq hl]
        exact hp _ (List.getElem_mem hl)
theorem crashFold_all {ps : List PendD} {ch : List UInt8} (hp : ∀ p ∈ ps, p.data.length = 64) : ∀ (l : List Nat) (s : Nat × List (List UInt8)), (∀ x ∈ s.2, x.length = 64) → ∀ x ∈ (l.foldl (crashStep ps ch) s).2, x.length = 64
  | [], _, h => h
  | a :: l, s, h => crashFold_all hp l _ (crashStep_all hp h)
theorem crashD_sizes {D : DiskD} (ch : List UInt8) (h : DiskOkP D) : szD (crashD D ch) ≤ 1000000 := by
  have h1 : ∀ x ∈ (crashD D ch).safe, x.length = 64 := crashFold_all (fun p hp => (h.2.2 p hp).2.2) _ _ h.2.1
  have h2 := sumLen_const h1
  have h3 : (crashD D ch).safe.length = D.safe.length := crashFold_len _ _ _ _
  have h4 := h.1.2.1
  have h5 : (crashD D ch).pend = [] := rfl
  unfold szD szSS szPS
  rw [h5, h2, h3]
  simp [sumLen]
  omega
theorem crashR_sizes {D : DiskD} (ch : List UInt8) (hx : szD D ≤ 1048576) : szD (crashR D ch) ≤ 1048576 := by
  unfold crashR
  split
  · rename_i h
    have := crashD_sizes ch h; omega
  · exact hx

set_option maxRecDepth 100000 in
set_option maxHeartbeats 8000000 in
theorem law_FnExactCrash (v1 v2 vc : Value) (D : DiskD) (ch : List UInt8) (n : Nat) (w : World) (h : DiskIn n w v1 v2 D) (hch : SlIn byte n w vc ch) (hp : PosOk D.pend) :
    Calls Try.prog 5 #[.agg #[v1, v2], vc] w fun e w' => e = .returned (.bool true) ∧ Chg [] w w' := by
  obtain ⟨ac, cc, rfl, _, _⟩ := hch.1.form
  have hbc := hch.1.bound
  have HP := Lib.hid hp
  obtain ⟨N, hN⟩ : ∃ N, N = w.heap.size := ⟨_, rfl⟩
  obtain ⟨W0, hW0⟩ : ∃ W0 : World, W0 = w.alloc (.cells #[v1, v2] 43) := ⟨_, rfl⟩
  have HB := Lib.hid (show Blk W0 N (.cells #[v1, v2] 43 (0, 0)) by rw [hW0, hN]; exact alloc_at rfl)
  have HC := Lib.hid (show Chg [] w W0 by rw [hW0]; exact (Chg.refl [] w).alloc _)
  have HD := Lib.hid (h.up HC.out)
  have HH := Lib.hid (hch.up HC.out)
  have hn : n ≤ N := by rw [hN]; exact h.2
  have HN := Lib.hid hN
  clear h hch hp
  by_cases hcl : ch.length ≤ 1048576
  · go_enter Try.func5, Try.ntmps5
    have hb0 : W0.cell? ⟨N, 0, none⟩ = some v1 := HB.out.cell 0
    have hb1 : W0.cell? ⟨N, 1, none⟩ = some v2 := HB.out.cell 1
    go_wp2_with fail
    rw [← hW0, ← hN]
    clear hW0 hN
    refine (szDisk_calls v1 v2 1048576 D _ W0 HD.out.1 HD.out.lt (by omega) (by omega)).mono ?_
    rintro e w1 ⟨rfl, hc⟩
    replace HB := Lib.hid (HB.out.up hc)
    replace HC := Lib.hid (HC.out.up hc)
    replace HD := Lib.hid (HD.out.up hc)
    replace HH := Lib.hid (HH.out.up hc)
    by_cases hsz : szD D ≤ 1048576
    · rw [szr_fits (by omega)]
      have hge : ¬ ((1048576 : Int) - (szD D : Nat) < 0) := by omega
      clear hb0 hb1 hc
      have hb0 : w1.cell? ⟨N, 0, none⟩ = some v1 := HB.out.cell 0
      have hb1 : w1.cell? ⟨N, 1, none⟩ = some v2 := HB.out.cell 1
      go_wp2_with fail
      clear hge
      refine (toDisk_calls v1 v2 D _ w1 HD.out.1 HD.out.lt hsz).mono ?_
      rintro e w2 ⟨p1, p2, F, rfl, ho, -, -, hc⟩
      have HO := Lib.hid ho
      replace HB := Lib.hid (HB.out.up hc)
      replace HC := Lib.hid (HC.out.up hc)
      replace HD := Lib.hid (HD.out.up hc)
      replace HH := Lib.hid (HH.out.up hc)
      clear hc hb0 hb1 ho
      go_wp2_with fail
      refine (toByteS_calls _ ch _ w2 HH.out.1 (fun b hb => Nat.lt_of_lt_of_le hb HH.out.2) hcl).mono ?_
      rintro e w3 ⟨pb, Fc, rfl, ho, -, -, hc⟩
      have HOb := Lib.hid ho
      replace HB := Lib.hid (HB.out.up hc)
      replace HC := Lib.hid (HC.out.up hc)
      replace HD := Lib.hid (HD.out.up hc)
      replace HH := Lib.hid (HH.out.up hc)
      replace HO := Lib.hid (HO.out.up hc)
      clear hc ho
      go_wp2_with fail
      refine (spec_Crash_calls p1 p2 pb D ch (fun k => k < w3.heap.size) w3 HO.out.rdIn HOb.out.rdIn (fun _ hb => hb) hsz).mono ?_
      rintro e w4 ⟨u1, u2, rfl, hr, hc⟩
      obtain ⟨okb, hokb⟩ : ∃ okb, okb = decide (DiskOkP D) := ⟨_, rfl⟩
      rw [← hokb]
      have HK := Lib.hid hokb
      have hne : (okb != okb) = false := by simp
      obtain ⟨R, hR⟩ : ∃ R, R = crashR D ch := ⟨_, rfl⟩
      rw [← hR] at hr
      obtain ⟨y1, z1, rfl, _, _⟩ := hr.1.form
      obtain ⟨y2, z2, rfl, _, _⟩ := hr.2.form
      have HR := Lib.hid hR
      have hsR : szD R ≤ 1048576 := by rw [hR]; exact crashR_sizes ch hsz
      have HU := Lib.hid (show DiskIn w4.heap.size w4 (.slice y1 R.safe.length z1) (.slice y2 R.pend.length z2) R from ⟨hr, Nat.le_refl _⟩)
      replace HB := Lib.hid (HB.out.up hc)
      replace HC := Lib.hid (HC.out.up hc)
      replace HD := Lib.hid (HD.out.up hc)
      replace HH := Lib.hid (HH.out.up hc)
      clear hc hr HO HOb hokb hR
      have hb0 : w4.cell? ⟨N, 0, none⟩ = some v1 := HB.out.cell 0
      have hb1 : w4.cell? ⟨N, 1, none⟩ = some v2 := HB.out.cell 1
      have hNl := HB.out.lt
      obtain ⟨b6, hb6⟩ : ∃ b6, b6 = w4.heap.size := ⟨_, rfl⟩
      obtain ⟨W4, hW4⟩ : ∃ W4 : World, W4 = w4.alloc (.cells #[.slice y1 R.safe.length z1, .slice y2 R.pend.length z2] 26) := ⟨_, rfl⟩
      have HB6 := Lib.hid (show Blk W4 b6 (dBox (.slice y1 R.safe.length z1) (.slice y2 R.pend.length z2)) by rw [hW4, hb6]; exact alloc_at rfl)
      have hc : Chg [] w4 W4 := by rw [hW4]; exact (Chg.refl [] w4).alloc _
      have h64 : b6 < W4.heap.size := HB6.out.lt
      have hN6 : N < b6 := by rw [hb6]; exact HB.out.lt
      rw [← hb6] at HU
      replace HB := Lib.hid (HB.out.up hc)
      replace HC := Lib.hid (HC.out.up hc)
      replace HD := Lib.hid (HD.out.up hc)
      replace HH := Lib.hid (HH.out.up hc)
      replace HU := Lib.hid (HU.out.up hc)
      clear hc
      go_wp2_with fail
      rw [← hW4, ← hb6]
      clear hW4 hb6 hb0 hb1 hNl
      refine (toDisk_calls v1 v2 D _ W4 HD.out.1 HD.out.lt hsz).mono ?_
      rintro e w5 ⟨x1, x2, F0, rfl, ho, hF0n, hF0, hc⟩
      obtain ⟨y3, z3, rfl, _, _⟩ := ho.rd.1.form
      obtain ⟨y4, z4, rfl, _, _⟩ := ho.rd.2.form
      have HX := Lib.hid ho
      replace HB := Lib.hid (HB.out.up hc)
      replace HC := Lib.hid (HC.out.up hc)
      replace HD := Lib.hid (HD.out.up hc)
      replace HH := Lib.hid (HH.out.up hc)
      replace HU := Lib.hid (HU.out.up hc)
      replace HB6 := Lib.hid (HB6.out.up hc)
      clear hc ho
      have hb0 : w5.cell? ⟨N, 0, none⟩ = some v1 := HB.out.cell 0
      have hb1 : w5.cell? ⟨N, 1, none⟩ = some v2 := HB.out.cell 1
      have hNl := HB.out.lt
      obtain ⟨b8, hb8⟩ : ∃ b8, b8 = w5.heap.size := ⟨_, rfl⟩
      obtain ⟨W5, hW5⟩ : ∃ W5 : World, W5 = w5.alloc (.cells #[.slice y3 D.safe.length z3, .slice y4 D.pend.length z4] 26) := ⟨_, rfl⟩
      have HB8 := Lib.hid (show Blk W5 b8 (dBox (.slice y3 D.safe.length z3) (.slice y4 D.pend.length z4)) by rw [hW5, hb8]; exact alloc_at rfl)
      have HF0 := Lib.hid (show ∀ k ∈ F0, b6 < k ∧ k < b8 from fun k hk => ⟨Nat.lt_of_lt_of_le h64 (hF0 k hk), by rw [hb8]; exact HX.out.lt k hk⟩)
      have hc : Chg [] w5 W5 := by rw [hW5]; exact (Chg.refl [] w5).alloc _
      have h68 : b6 < b8 := by rw [hb8]; exact HB6.out.lt
      replace HB := Lib.hid (HB.out.up hc)
      replace HC := Lib.hid (HC.out.up hc)
      replace HD := Lib.hid (HD.out.up hc)
      replace HH := Lib.hid (HH.out.up hc)
      replace HU := Lib.hid (HU.out.up hc)
      replace HB6 := Lib.hid (HB6.out.up hc)
      replace HX := Lib.hid (HX.out.up hc)
      clear hc hF0
      go_wp2_with fail
      rw [← hW5, ← hb8]
      clear hW5 hb8 hb0 hb1 hNl
      refine (toByteS_calls _ ch _ W5 HH.out.1 (fun b hb => Nat.lt_of_lt_of_le hb HH.out.2) hcl).mono ?_
      rintro e w6 ⟨xb, Fb, rfl, ho, hFbn, hFb, hc⟩
      obtain ⟨yb, zb, rfl, _, _⟩ := ho.rd.form
      have HXb := Lib.hid ho
      have HFb := Lib.hid (show ∀ k ∈ Fb, b8 < k ∧ k < w6.heap.size from fun k hk => ⟨Nat.lt_of_lt_of_le HB8.out.lt (hFb k hk), ho.lt k hk⟩)
      replace HB := Lib.hid (HB.out.up hc)
      replace HC := Lib.hid (HC.out.up hc)
      replace HD := Lib.hid (HD.out.up hc)
      replace HH := Lib.hid (HH.out.up hc)
      replace HU := Lib.hid (HU.out.up hc)
      replace HB6 := Lib.hid (HB6.out.up hc)
      replace HX := Lib.hid (HX.out.up hc)
      replace HB8 := Lib.hid (HB8.out.up hc)
      clear hc ho hFb
      have hx0 : w6.cell? ⟨b8, 0, none⟩ = some (.slice y3 D.safe.length z3) := HB8.out.cell 0
      have hx1 : w6.cell? ⟨b8, 1, none⟩ = some (.slice y4 D.pend.length z4) := HB8.out.cell 1
      go_wp2_with fail
      refine (impl_Crash_calls _ _ _ D ch (fun k => k < w6.heap.size) w6 HX.out.rdIn HXb.out.rdIn (fun _ hb => hb) HP.out hsz).mono ?_
      rintro e w7 ⟨g1, g2, Fg, rfl, ho, hFgn, hFg, hc⟩
      rw [← HK.out]
      rw [← HR.out] at ho
      obtain ⟨y5, z5, rfl, _, _⟩ := ho.rd.1.form
      obtain ⟨y6, z6, rfl, _, _⟩ := ho.rd.2.form
      obtain ⟨e9, he9⟩ : ∃ e9, e9 = w6.heap.size := ⟨_, rfl⟩
      rw [← he9] at HFb hFg
      have h89 : b8 < e9 := by rw [he9]; exact HB8.out.lt
      have HG := Lib.hid ho
      replace HB := Lib.hid (HB.out.up hc)
      replace HC := Lib.hid (HC.out.up hc)
      replace HD := Lib.hid (HD.out.up hc)
      replace HH := Lib.hid (HH.out.up hc)
      replace HU := Lib.hid (HU.out.up hc)
      replace HB6 := Lib.hid (HB6.out.up hc)
      replace HX := Lib.hid (HX.out.up hc)
      replace HB8 := Lib.hid (HB8.out.up hc)
      replace HXb := Lib.hid (HXb.out.up hc)
      obtain ⟨b10, hb10⟩ : ∃ b10, b10 = w7.heap.size := ⟨_, rfl⟩
      have h910 : e9 ≤ b10 := by rw [he9, hb10]; exact hc.size
      have HFg := Lib.hid (show ∀ k ∈ Fg, e9 ≤ k ∧ k < b10 from fun k hk => ⟨hFg k hk, by rw [hb10]; exact ho.lt k hk⟩)
      clear hc ho hFg hx0 hx1 he9
      have hu0 : w7.cell? ⟨b6, 0, none⟩ = some (.slice y1 R.safe.length z1) := HB6.out.cell 0
      have hu1 : w7.cell? ⟨b6, 1, none⟩ = some (.slice y2 R.pend.length z2) := HB6.out.cell 1
      have h6l := HB6.out.lt
      obtain ⟨W7, hW7⟩ : ∃ W7 : World, W7 = w7.alloc (.cells #[.slice y5 R.safe.length z5, .slice y6 R.pend.length z6] 26) := ⟨_, rfl⟩
      have HB10 := Lib.hid (show Blk W7 b10 (dBox (.slice y5 R.safe.length z5) (.slice y6 R.pend.length z6)) by rw [hW7, hb10]; exact alloc_at rfl)
      have hc : Chg [] w7 W7 := by rw [hW7]; exact (Chg.refl [] w7).alloc _
      replace HB := Lib.hid (HB.out.up hc)
      replace HC := Lib.hid (HC.out.up hc)
      replace HD := Lib.hid (HD.out.up hc)
      replace HH := Lib.hid (HH.out.up hc)
      replace HU := Lib.hid (HU.out.up hc)
      replace HB6 := Lib.hid (HB6.out.up hc)
      replace HX := Lib.hid (HX.out.up hc)
      replace HB8 := Lib.hid (HB8.out.up hc)
      replace HXb := Lib.hid (HXb.out.up hc)
      replace HG := Lib.hid (HG.out.up hc)
      clear hc
      go_wp2_with fail
      rw [← hW7, ← hb10]
      clear hW7 hb10 hu0 hu1 h6l
      refine (eqDisk_calls _ _ _ _ R _ _ W7 HG.out.rdIn HU.out.1 (fun _ hb => hb) HU.out.lt).mono ?_
      rintro e w8 ⟨rfl, hc⟩
      replace HB := Lib.hid (HB.out.up hc)
      replace HC := Lib.hid (HC.out.up hc)
      replace HD := Lib.hid (HD.out.up hc)
      replace HH := Lib.hid (HH.out.up hc)
      replace HU := Lib.hid (HU.out.up hc)
      replace HB6 := Lib.hid (HB6.out.up hc)
      replace HX := Lib.hid (HX.out.up hc)
      replace HB8 := Lib.hid (HB8.out.up hc)
      replace HXb := Lib.hid (HXb.out.up hc)
      replace HG := Lib.hid (HG.out.up hc)
      replace HB10 := Lib.hid (HB10.out.up hc)
      clear hc
      go_wp2
      refine wp_region_sched (fun w' => (w'.cell? ⟨b8, 0, none⟩ = some (.slice y3 D.safe.length z3) ∧ w'.cell? ⟨b8, 1, none⟩ = some (.slice y4 D.pend.length z4)) ∧ w'.cell? ⟨N, 0, none⟩ = some v1 ∧ w'.cell? ⟨N, 1, none⟩ = some v2)
        [] [.st 0, .st 1, .ac 2, .ac 3, .pure 4] (by kernel_rfl) (by kernel_rfl) ⟨⟨HB8.out.cell 0, HB8.out.cell 1⟩, HB.out.cell 0, HB.out.cell 1⟩ ?_
      have HS0 : (fun w' : World => (w'.cell? ⟨b8, 0, none⟩ = some (.slice y3 D.safe.length z3) ∧ w'.cell? ⟨b8, 1, none⟩ = some (.slice y4 D.pend.length z4)) ∧ w'.cell? ⟨N, 0, none⟩ = some v1 ∧ w'.cell? ⟨N, 1, none⟩ = some v2) w8.drew := ⟨⟨HB8.out.cell 0, HB8.out.cell 1⟩, HB.out.cell 0, HB.out.cell 1⟩
      (first | (refine sched_pure (by rfl) ?_; apply Exists.intro; apply Exists.intro; refine ⟨fun w' hS' Kp hK => ?_, ?_⟩; (· (try dsimp only at hS'); go_simp; (repeat (go_ite <;> go_prune <;> (try go_simp))); (all_goals first | exact hK | (refine valUpon_ok ?_; exact hK)))) | (refine sched_st (by rfl) (by assumption) ?_; apply Exists.intro; apply Exists.intro; refine ⟨fun w' hS' Kp hK => ?_, ?_⟩; (· (try dsimp only at hS'); go_simp; (repeat (go_ite <;> go_prune <;> (try go_simp))); (all_goals first | exact hK | (refine valUpon_ok ?_; exact hK)))))
      (first | (refine sched_pure (by rfl) ?_; apply Exists.intro; apply Exists.intro; refine ⟨fun w' hS' Kp hK => ?_, ?_⟩; (· (try dsimp only at hS'); go_simp; (repeat (go_ite <;> go_prune <;> (try go_simp))); (all_goals first | exact hK | (refine valUpon_ok ?_; exact hK)))) | (refine sched_st (by rfl) (by assumption) ?_; apply Exists.intro; apply Exists.intro; refine ⟨fun w' hS' Kp hK => ?_, ?_⟩; (· (try dsimp only at hS'); go_simp; (repeat (go_ite <;> go_prune <;> (try go_simp))); (all_goals first | exact hK | (refine valUpon_ok ?_; exact hK)))))
      clear HS0
      have hc : Chg [] w8 w8.drew := (Chg.refl _ _).drew
      replace HB := Lib.hid (HB.out.up hc)
      replace HC := Lib.hid (HC.out.up hc)
      replace HD := Lib.hid (HD.out.up hc)
      replace HH := Lib.hid (HH.out.up hc)
      replace HU := Lib.hid (HU.out.up hc)
      replace HB6 := Lib.hid (HB6.out.up hc)
      replace HX := Lib.hid (HX.out.up hc)
      replace HB8 := Lib.hid (HB8.out.up hc)
      replace HXb := Lib.hid (HXb.out.up hc)
      replace HG := Lib.hid (HG.out.up hc)
      replace HB10 := Lib.hid (HB10.out.up hc)
      clear hc
      (refine sched_ac (by rfl) ?_)
      go_wp2_with fail
      refine (toDisk_calls v1 v2 D _ w8.drew HD.out.1 HD.out.lt hsz).mono ?_
      rintro e w9 ⟨q1, q2, Fq, rfl, ho, -, -, hc⟩
      have HQ := Lib.hid ho
      replace HB := Lib.hid (HB.out.up hc)
      replace HC := Lib.hid (HC.out.up hc)
      replace HD := Lib.hid (HD.out.up hc)
      replace HH := Lib.hid (HH.out.up hc)
      replace HU := Lib.hid (HU.out.up hc)
      replace HB6 := Lib.hid (HB6.out.up hc)
      replace HX := Lib.hid (HX.out.up hc)
      replace HB8 := Lib.hid (HB8.out.up hc)
      replace HXb := Lib.hid (HXb.out.up hc)
      replace HG := Lib.hid (HG.out.up hc)
      replace HB10 := Lib.hid (HB10.out.up hc)
      clear hc ho
      go_wp2_with fail
      (unfold KeepPost; refine ⟨fun _ => ⟨⟨HB8.out.cell 0, HB8.out.cell 1⟩, HB.out.cell 0, HB.out.cell 1⟩, ?_⟩)
      (refine sched_ac (by rfl) ?_)
      go_wp2_with fail
      refine (eqDisk_calls _ _ _ _ D _ _ w9 HX.out.rdIn HQ.out.rdIn (fun _ hb => hb) (fun _ hb => hb)).mono ?_
      rintro e w10 ⟨rfl, hc⟩
      replace HB := Lib.hid (HB.out.up hc)
      replace HC := Lib.hid (HC.out.up hc)
      replace HD := Lib.hid (HD.out.up hc)
      replace HH := Lib.hid (HH.out.up hc)
      replace HU := Lib.hid (HU.out.up hc)
      replace HB6 := Lib.hid (HB6.out.up hc)
      replace HX := Lib.hid (HX.out.up hc)
      replace HB8 := Lib.hid (HB8.out.up hc)
      replace HXb := Lib.hid (HXb.out.up hc)
      replace HG := Lib.hid (HG.out.up hc)
      replace HB10 := Lib.hid (HB10.out.up hc)
      clear hc HQ
      go_wp2_with fail
      (unfold KeepPost; refine ⟨fun _ => ⟨⟨HB8.out.cell 0, HB8.out.cell 1⟩, HB.out.cell 0, HB.out.cell 1⟩, ?_⟩)
      (first | (refine sched_pure (by rfl) ?_; apply Exists.intro; apply Exists.intro; refine ⟨fun w' hS' Kp hK => ?_, ?_⟩; (· (try dsimp only at hS'); go_simp; (repeat (go_ite <;> go_prune <;> (try go_simp))); (all_goals first | exact hK | (refine valUpon_ok ?_; exact hK)))) | (refine sched_st (by rfl) (by assumption) ?_; apply Exists.intro; apply Exists.intro; refine ⟨fun w' hS' Kp hK => ?_, ?_⟩; (· (try dsimp only at hS'); go_simp; (repeat (go_ite <;> go_prune <;> (try go_simp))); (all_goals first | exact hK | (refine valUpon_ok ?_; exact hK)))))
      (refine NoPanic.normal ?_)
      go_wp2_with fail
      refine (toByteS_calls _ ch _ w10 HH.out.1 (fun b hb => Nat.lt_of_lt_of_le hb HH.out.2) hcl).mono ?_
      rintro e w11 ⟨qb, Fq, rfl, ho, -, -, hc⟩
      have HQ := Lib.hid ho
      replace HB := Lib.hid (HB.out.up hc)
      replace HC := Lib.hid (HC.out.up hc)
      replace HD := Lib.hid (HD.out.up hc)
      replace HH := Lib.hid (HH.out.up hc)
      replace HU := Lib.hid (HU.out.up hc)
      replace HB6 := Lib.hid (HB6.out.up hc)
      replace HX := Lib.hid (HX.out.up hc)
      replace HB8 := Lib.hid (HB8.out.up hc)
      replace HXb := Lib.hid (HXb.out.up hc)
      replace HG := Lib.hid (HG.out.up hc)
      replace HB10 := Lib.hid (HB10.out.up hc)
      clear hc ho
      go_wp2_with fail
      refine (eqByteS_chg _ _ ch _ _ w11 HXb.out.rd HQ.out.rd).mono ?_
      rintro e w12 ⟨rfl, hc⟩
      replace HB := Lib.hid (HB.out.up hc)
      replace HC := Lib.hid (HC.out.up hc)
      replace HD := Lib.hid (HD.out.up hc)
      replace HH := Lib.hid (HH.out.up hc)
      replace HU := Lib.hid (HU.out.up hc)
      replace HB6 := Lib.hid (HB6.out.up hc)
      replace HX := Lib.hid (HX.out.up hc)
      replace HB8 := Lib.hid (HB8.out.up hc)
      replace HXb := Lib.hid (HXb.out.up hc)
      replace HG := Lib.hid (HG.out.up hc)
      replace HB10 := Lib.hid (HB10.out.up hc)
      clear hc HQ
      have hx0 : w12.cell? ⟨b8, 0, none⟩ = some (.slice y3 D.safe.length z3) := HB8.out.cell 0
      have hx1 : w12.cell? ⟨b8, 1, none⟩ = some (.slice y4 D.pend.length z4) := HB8.out.cell 1
      go_wp2_with fail
      refine (markDisk_calls _ _ 1 D F0 w12 HX.out hF0n (by omega) (by omega)).mono ?_
      rintro e w13 ⟨rfl, -, hc⟩
      have hN10 : w.heap.size ≤ N := by rw [HN.out]; exact Nat.le_refl _
      have HC := Lib.hid (HC.out.step hc (fun k hk => .inr (by have := (HF0.out k hk).1; omega)))
      have HB := Lib.hid (HB.out.off hc (fun hm => by have := HF0.out _ hm; omega))
      have HB6 := Lib.hid (HB6.out.off hc (fun hm => by have := HF0.out _ hm; omega))
      have HB10 := Lib.hid (HB10.out.off hc (fun hm => by have := HF0.out _ hm; omega))
      have HD := Lib.hid (HD.out.off hc (fun k hk => by have := HF0.out k hk; omega))
      have HH := Lib.hid (HH.out.off hc (fun k hk => by have := HF0.out k hk; omega))
      have HU := Lib.hid (HU.out.off hc (fun k hk => by have := HF0.out k hk; omega))
      have HXb := Lib.hid (HXb.out.off hc (fun k hk hm => by have := HF0.out k hm; have := HFb.out k hk; omega))
      have HG := Lib.hid (HG.out.off hc (fun k hk hm => by have := HF0.out k hm; have := HFg.out k hk; omega))
      obtain ⟨k1, hk1⟩ : ∃ k1 : Int, k1 = 1 + (sumLen D.safe : Nat) + (szPS D.pend : Nat) := ⟨_, rfl⟩
      have hk1b : 1 ≤ k1 ∧ k1 ≤ 1048577 := by unfold szD szSS at hsz; omega
      rw [← hk1]
      clear hc hx0 hx1 HX HB8 hk1
      go_wp2_with fail
      refine (markByteS_calls _ k1 ch Fb w13 HXb.out (by omega) (by omega) (by omega)).mono ?_
      rintro e w14 ⟨rfl, -, hc⟩
      have HC := Lib.hid (HC.out.step hc (fun k hk => .inr (by have := (HFb.out k hk).1; omega)))
      have HB := Lib.hid (HB.out.off hc (fun hm => by have := HFb.out _ hm; omega))
      have HB6 := Lib.hid (HB6.out.off hc (fun hm => by have := HFb.out _ hm; omega))
      have HB10 := Lib.hid (HB10.out.off hc (fun hm => by have := HFb.out _ hm; omega))
      have HD := Lib.hid (HD.out.off hc (fun k hk => by have := HFb.out k hk; omega))
      have HH := Lib.hid (HH.out.off hc (fun k hk => by have := HFb.out k hk; omega))
      have HU := Lib.hid (HU.out.off hc (fun k hk => by have := HFb.out k hk; omega))
      have HG := Lib.hid (HG.out.off hc (fun k hk hm => by have := HFb.out k hm; have := HFg.out k hk; omega))
      obtain ⟨k2, hk2⟩ : ∃ k2 : Int, k2 = k1 + (ch.length : Nat) := ⟨_, rfl⟩
      have hk2b : 1 ≤ k2 ∧ k2 ≤ 2097153 := by omega
      rw [← hk2]
      clear hc HXb hk2
      have hu0 : w14.cell? ⟨b6, 0, none⟩ = some (.slice y1 R.safe.length z1) := HB6.out.cell 0
      have hu1 : w14.cell? ⟨b6, 1, none⟩ = some (.slice y2 R.pend.length z2) := HB6.out.cell 1
      have hg0 : w14.cell? ⟨b10, 0, none⟩ = some (.slice y5 R.safe.length z5) := HB10.out.cell 0
      have hg1 : w14.cell? ⟨b10, 1, none⟩ = some (.slice y6 R.pend.length z6) := HB10.out.cell 1
      have hkn : ¬ k2 < 0 := by omega
      go_wp2_with fail
      refine (eqDisk_calls _ _ _ _ R _ _ w14 HG.out.rdIn HU.out.1 (fun _ hb => hb) HU.out.lt).mono ?_
      rintro e w15 ⟨rfl, hc⟩
      replace HB := Lib.hid (HB.out.up hc)
      replace HC := Lib.hid (HC.out.up hc)
      replace HD := Lib.hid (HD.out.up hc)
      replace HH := Lib.hid (HH.out.up hc)
      replace HU := Lib.hid (HU.out.up hc)
      replace HB6 := Lib.hid (HB6.out.up hc)
      replace HG := Lib.hid (HG.out.up hc)
      replace HB10 := Lib.hid (HB10.out.up hc)
      clear hc hu0 hu1 hg0 hg1
      have hg0 : w15.cell? ⟨b10, 0, none⟩ = some (.slice y5 R.safe.length z5) := HB10.out.cell 0
      have hg1 : w15.cell? ⟨b10, 1, none⟩ = some (.slice y6 R.pend.length z6) := HB10.out.cell 1
      go_wp2_with fail
      refine (markDisk_calls _ _ 1 R Fg w15 HG.out hFgn (by omega) (by omega)).mono ?_
      rintro e w16 ⟨rfl, hm, hc⟩
      have HM := Lib.hid hm
      have HC := Lib.hid (HC.out.step hc (fun k hk => .inr (by have := (HFg.out k hk).1; omega)))
      have HB := Lib.hid (HB.out.off hc (fun hm => by have := HFg.out _ hm; omega))
      have HB6 := Lib.hid (HB6.out.off hc (fun hm => by have := HFg.out _ hm; omega))
      have HB10 := Lib.hid (HB10.out.off hc (fun hm => by have := HFg.out _ hm; omega))
      have HD := Lib.hid (HD.out.off hc (fun k hk => by have := HFg.out k hk; omega))
      have HH := Lib.hid (HH.out.off hc (fun k hk => by have := HFg.out k hk; omega))
      have HU := Lib.hid (HU.out.off hc (fun k hk => by have := HFg.out k hk; omega))
      obtain ⟨k3, hk3⟩ : ∃ k3 : Int, k3 = 1 + (sumLen R.safe : Nat) + (szPS R.pend : Nat) := ⟨_, rfl⟩
      have hk3b : 1 ≤ k3 ∧ k3 ≤ 1048577 := by unfold szD szSS at hsR; omega
      have hk3n : ¬ k3 < 0 := by omega
      have hk3e : (k3 != k3) = false := by simp
      rw [← hk3]
      clear hc hg0 hg1 HG
      have hg0 : w16.cell? ⟨b10, 0, none⟩ = some (.slice y5 R.safe.length z5) := HB10.out.cell 0
      have hg1 : w16.cell? ⟨b10, 1, none⟩ = some (.slice y6 R.pend.length z6) := HB10.out.cell 1
      have HK3 := Lib.hid hk3
      clear hk3 hm
      go_wp2_with fail
      refine (heldDisk_calls _ _ 1 R _ w16 HM.out.rdIn (fun _ hb => hb) (by omega) (by omega)).mono ?_
      rintro e w17 ⟨rfl, hc⟩
      replace HB := Lib.hid (HB.out.up hc)
      replace HC := Lib.hid (HC.out.up hc)
      replace HD := Lib.hid (HD.out.up hc)
      replace HH := Lib.hid (HH.out.up hc)
      replace HU := Lib.hid (HU.out.up hc)
      replace HB6 := Lib.hid (HB6.out.up hc)
      rw [← HK3.out]
      clear hc hg0 hg1 HM HB10
      have hb0 : w17.cell? ⟨N, 0, none⟩ = some v1 := HB.out.cell 0
      have hb1 : w17.cell? ⟨N, 1, none⟩ = some v2 := HB.out.cell 1
      go_wp2_with fail
      refine (toDisk_calls v1 v2 D _ w17 HD.out.1 HD.out.lt hsz).mono ?_
      rintro e w18 ⟨p1, p2, Fp, rfl, ho, -, -, hc⟩
      have HO := Lib.hid ho
      replace HB := Lib.hid (HB.out.up hc)
      replace HC := Lib.hid (HC.out.up hc)
      replace HD := Lib.hid (HD.out.up hc)
      replace HH := Lib.hid (HH.out.up hc)
      replace HU := Lib.hid (HU.out.up hc)
      replace HB6 := Lib.hid (HB6.out.up hc)
      clear hc ho hb0 hb1
      go_wp2_with fail
      refine (toByteS_calls _ ch _ w18 HH.out.1 (fun b hb => Nat.lt_of_lt_of_le hb HH.out.2) hcl).mono ?_
      rintro e w19 ⟨pb, Fc, rfl, ho, -, -, hc⟩
      have HOb := Lib.hid ho
      replace HB := Lib.hid (HB.out.up hc)
      replace HC := Lib.hid (HC.out.up hc)
      replace HD := Lib.hid (HD.out.up hc)
      replace HH := Lib.hid (HH.out.up hc)
      replace HU := Lib.hid (HU.out.up hc)
      replace HB6 := Lib.hid (HB6.out.up hc)
      replace HO := Lib.hid (HO.out.up hc)
      clear hc ho
      go_wp2_with fail
      refine (impl_Crash_calls _ _ _ D ch (fun k => k < w19.heap.size) w19 HO.out.rdIn HOb.out.rdIn (fun _ hb => hb) HP.out hsz).mono ?_
      rintro e w20 ⟨g1, g2, Fh, rfl, ho, -, -, hc⟩
      rw [← HK.out]
      rw [← HR.out] at ho
      obtain ⟨y7, z7, rfl, _, _⟩ := ho.rd.1.form
      obtain ⟨y8, z8, rfl, _, _⟩ := ho.rd.2.form
      have HG := Lib.hid ho
      replace HC := Lib.hid (HC.out.up hc)
      replace HU := Lib.hid (HU.out.up hc)
      replace HB6 := Lib.hid (HB6.out.up hc)
      clear hc ho HO HOb
      have hu0 : w20.cell? ⟨b6, 0, none⟩ = some (.slice y1 R.safe.length z1) := HB6.out.cell 0
      have hu1 : w20.cell? ⟨b6, 1, none⟩ = some (.slice y2 R.pend.length z2) := HB6.out.cell 1
      have h6l := HB6.out.lt
      obtain ⟨W20, hW20⟩ : ∃ W20 : World, W20 = w20.alloc (.cells #[.slice y7 R.safe.length z7, .slice y8 R.pend.length z8] 26) := ⟨_, rfl⟩
      have hc : Chg [] w20 W20 := by rw [hW20]; exact (Chg.refl [] w20).alloc _
      replace HC := Lib.hid (HC.out.up hc)
      replace HU := Lib.hid (HU.out.up hc)
      replace HG := Lib.hid (HG.out.up hc)
      clear hc
      go_wp2_with fail
      rw [← hW20]
      clear hW20
      refine (eqDisk_calls _ _ _ _ R _ _ W20 HG.out.rdIn HU.out.1 (fun _ hb => hb) HU.out.lt).mono ?_
      rintro e w21 ⟨rfl, hc⟩
      replace HC := Lib.hid (HC.out.up hc)
      clear hc
      go_wp2
      go_ret
      exact ⟨rfl, HC.out⟩
    · rw [szr_less (by omega)]
      go_wp2
      go_ret
      exact ⟨rfl, HC.out⟩
  · have hcl' : (1048576 : Int) < (ch.length : Nat) := by omega
    go_enter Try.func5, Try.ntmps5
    go_wp2
    rw [← hW0]
    go_ret
    exact ⟨rfl, HC.out⟩
end Go.Proofs.Ytjolhaefnloaoaa
