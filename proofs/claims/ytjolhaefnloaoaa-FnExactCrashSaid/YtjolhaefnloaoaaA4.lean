/- The laws' own helpers: marks laid into what came back, and found again. -/
import Derived.Test.YtjolhaefnloaoaaProg
import Derived.Test.YtjolhaefnloaoaaA2
import Derived.Deep.QuietTactic
import Derived.BigQuiet
import Derived.StillTailTactics
import Derived.RowKit3
import Derived.Lib.Hide
namespace Go.Proofs.Ytjolhaefnloaoaa
open Go.RowKit Sh

def markB (k : Int) : List UInt8 → List UInt8
  | [] => []
  | _ :: xs => UInt8.ofInt k :: markB (k + 1) xs
theorem markB_length : ∀ (xs : List UInt8) (k : Int), (markB k xs).length = xs.length
  | [], _ => rfl
  | _ :: xs, k => by rw [markB, List.length_cons, List.length_cons, markB_length xs]
theorem markB_get : ∀ (xs : List UInt8) (k : Int) (j : Nat) (h : j < (markB k xs).length), (markB k xs)[j] = UInt8.ofInt (k + j)
  | [], _, j, h => by simp [markB] at h
  | _ :: xs, k, 0, h => by simp [markB]
  | _ :: xs, k, j + 1, h => by
    simp only [markB, List.getElem_cons_succ]
    rw [markB_get xs (k + 1) j (by simpa [markB] using h)]
    congr 1; omega
def markBB (k : Int) : List (List UInt8) → List (List UInt8)
  | [] => []
  | x :: xs => markB k x :: markBB (k + x.length) xs
theorem markBB_length : ∀ (xs : List (List UInt8)) (k : Int), (markBB k xs).length = xs.length
  | [], _ => rfl
  | _ :: xs, k => by rw [markBB, List.length_cons, List.length_cons, markBB_length xs]
theorem markBB_get : ∀ (xs : List (List UInt8)) (k : Int) (j : Nat) (h : j < (markBB k xs).length) (h' : j < xs.length), (markBB k xs)[j] = markB (k + sumLen (xs.take j)) xs[j]
  | [], _, j, h, _ => by simp [markBB] at h
  | x :: xs, k, 0, h, _ => by simp [markBB, sumLen]
  | x :: xs, k, j + 1, h, h' => by
    simp only [markBB, List.getElem_cons_succ]
    rw [markBB_get xs (k + x.length) j (by simpa [markBB] using h) (by simpa using h')]
    congr 1
    simp [sumLen]; omega
def markPS (k : Int) : List PendD → List PendD
  | [] => []
  | p :: ps => ⟨k, markB (k + 1) p.data⟩ :: markPS (k + 1 + p.data.length) ps
theorem markPS_length : ∀ (xs : List PendD) (k : Int), (markPS k xs).length = xs.length
  | [], _ => rfl
  | _ :: xs, k => by rw [markPS, List.length_cons, List.length_cons, markPS_length xs]
theorem markPS_get : ∀ (xs : List PendD) (k : Int) (j : Nat) (h : j < (markPS k xs).length) (h' : j < xs.length), (markPS k xs)[j] = ⟨k + j + sumLen ((xs.map PendD.data).take j), markB (k + j + sumLen ((xs.map PendD.data).take j) + 1) xs[j].data⟩
  | [], _, j, h, _ => by simp [markPS] at h
  | x :: xs, k, 0, h, _ => by simp [markPS, sumLen]
  | x :: xs, k, j + 1, h, h' => by
    simp only [markPS, List.getElem_cons_succ]
    rw [markPS_get xs (k + 1 + x.data.length) j (by simpa [markPS] using h) (by simpa using h')]
    have e : k + 1 + (x.data.length : Int) + j + sumLen ((xs.map PendD.data).take j) = k + ((j + 1 : Nat) : Int) + sumLen (((x :: xs).map PendD.data).take (j + 1)) := by
      simp [sumLen]; omega
    rw [e]
def markD (k : Int) (D : DiskD) : DiskD := ⟨markBB k D.safe, markPS (k + sumLen D.safe) D.pend⟩

theorem mix_set {α : Type} (ys xs : List α) (h : ys.length = xs.length) (j : Nat) (hj : j < ys.length) : (ys.take j ++ xs.drop j).set j ys[j] = ys.take (j + 1) ++ xs.drop (j + 1) := by
  have hl : (ys.take j).length = j := by simp; omega
  rw [List.set_append_right _ _ (by omega), hl, Nat.sub_self, List.drop_eq_getElem_cons (by omega), List.set_cons_zero, List.take_succ_eq_append_getElem hj, List.append_assoc]
  rfl
theorem mix_get {α : Type} (ys xs : List α) (h : ys.length = xs.length) (j : Nat) (hj : j < xs.length) (h' : j < (ys.take j ++ xs.drop j).length) : (ys.take j ++ xs.drop j)[j] = xs[j] := by
  have hl : (ys.take j).length = j := by simp; omega
  rw [List.getElem_append_right (by omega)]
  simp [hl]
theorem byte_ofInt (x : Int) : ((UInt8.ofInt x).toNat : Int) = x % 256 := by
  have h : 0 ≤ x % 256 := Int.emod_nonneg x (by decide)
  have h2 : x % 256 < 256 := Int.emod_lt_of_pos x (by decide)
  simp only [UInt8.ofInt, UInt8.toNat_ofNat']
  omega

set_option maxHeartbeats 1000000 in
theorem markByteS_calls (v : Value) (k : Int) (xs : List UInt8) (F : List Nat) (w : World) (h : SlOwn byte 5 F w v xs) (hk : 0 ≤ k) (hk2 : k ≤ 1000000000) (hx : xs.length ≤ 1000000000) :
    Calls Try.prog 27 #[v, .int .i64 k] w fun e w' => e = .returned (.int .i64 (k + xs.length)) ∧ SlOwn byte 5 F w' v (markB k xs) ∧ Chg F w w' := by
  obtain ⟨a, c, rfl, hc1, hc2⟩ := h.rd.form
  have HM := Lib.hid (markB_length xs k)
  go_enter Try.func27, Try.ntmps27
  go_wp2
  go_loopw [1, 5] (fun kk i wr => ∃ j : Nat, j ≤ xs.length ∧ kk = .int .i64 (k + j) ∧ i = .int .i64 j ∧ SlOwn byte 5 F wr (.slice a xs.length c) ((markB k xs).take j ++ xs.drop j) ∧ Chg F w wr) (fun _ i _ => xs.length - (intOf i).toNat)
  case atStart => exact ⟨0, by omega, by simp, rfl, by simpa using h, Chg.refl _ _⟩
  case round =>
    obtain ⟨j, hj, rfl, rfl, hown, hchg⟩ := hrel
    by_cases hlt : j < xs.length
    · have HO := Lib.hid hown
      have HC := Lib.hid hchg
      obtain ⟨b, hF, ha, hb, hcell, hfz⟩ := HO.out.store j (by have := HM.out; simp; omega)
      subst ha
      clear hown hchg
      go_wp2
      go_round
      case rel =>
        refine ⟨j + 1, by omega, by congr 1; omega, by go_num, ?_, HC.out.setCell (.inl (by rw [hF]; simp)) _⟩
        subst hF
        have hjl : j < (markB k xs).length := by rw [HM.out]; exact hlt
        have h2 := HO.out.set j (by have := HM.out; simp; omega) (markB k xs)[j]
        rw [mix_set _ _ HM.out j hjl, markB_get, byte_ofInt] at h2
        exact h2
      case measure => simp [intOf]; omega
    · go_wp2
      go_ret
      obtain rfl : j = xs.length := by omega
      rw [List.take_of_length_le (by rw [HM.out]; omega), List.drop_length, List.append_nil] at hown
      exact ⟨rfl, hown, hchg⟩

set_option maxHeartbeats 1000000 in
theorem heldByteS_calls (v : Value) (k : Int) (xs : List UInt8) (S : Nat → Prop) (w : World) (h : SlRd byte S w v (markB k xs)) (hk : 0 ≤ k) (hk2 : k ≤ 1000000000) (hx : xs.length ≤ 1000000000) :
    Calls Try.prog 95 #[v, .int .i64 k] w fun e w' => e = .returned (.int .i64 (k + xs.length)) ∧ w = w' := by
  obtain ⟨a, c, rfl, hc1, hc2⟩ := h.form
  have hml := markB_length xs k
  generalize hys : markB k xs = ys at h hml hc1 ⊢
  go_enter Try.func95, Try.ntmps95
  go_wp2
  go_loop [1, 5] (fun kk i => ∃ j : Nat, j ≤ xs.length ∧ kk = .int .i64 (k + j) ∧ i = .int .i64 j) (fun _ i => xs.length - (intOf i).toNat)
  case atStart => exact ⟨0, by omega, by simp, rfl⟩
  case round =>
    obtain ⟨j, hj, rfl, rfl⟩ := hrel
    by_cases hlt : j < xs.length
    · obtain ⟨b, o, rfl, _, hb, hcell⟩ := h.cell j (by omega)
      subst hys
      rw [markB_get, byte_ofInt] at hcell
      have hne : ((k + (j : Int)) % 256 != (k + j) % 256) = false := by simp
      go_wp2
      go_round
      case rel => exact ⟨j + 1, by omega, by congr 1; omega, by go_num⟩
      case measure => simp [intOf]; omega
    · go_wp2
      go_ret
      obtain rfl : j = xs.length := by omega
      exact ⟨rfl, rfl⟩

set_option maxHeartbeats 1000000 in
theorem markByteSS_calls (v : Value) (k : Int) (xs : List (List UInt8)) (F : List Nat) (w : World) (h : SlOwn bytesSh 22 F w v xs) (hF : F.Nodup) (hk : 0 ≤ k) (hx : k + sumLen xs ≤ 1000000000) :
    Calls Try.prog 59 #[v, .int .i64 k] w fun e w' => e = .returned (.int .i64 (k + sumLen xs)) ∧ SlOwn bytesSh 22 F w' v (markBB k xs) ∧ Chg F w w' := by
  obtain ⟨a, c, rfl, hc1, hc2⟩ := h.rd.form
  have hb := h.rd.bound
  have HM := Lib.hid (markBB_length xs k)
  go_enter Try.func59, Try.ntmps59
  go_wp2
  go_loopw [1, 5] (fun kk i wr => ∃ j : Nat, j ≤ xs.length ∧ kk = .int .i64 (k + sumLen (xs.take j)) ∧ i = .int .i64 j ∧ SlOwn bytesSh 22 F wr (.slice a xs.length c) ((markBB k xs).take j ++ xs.drop j) ∧ Chg F w wr) (fun _ i _ => xs.length - (intOf i).toNat)
  case atStart => exact ⟨0, by omega, by simp [sumLen], rfl, by simpa using h, Chg.refl _ _⟩
  case round =>
    obtain ⟨j, hj, rfl, rfl, hown, hchg⟩ := hrel
    by_cases hlt : j < xs.length
    · have HO := Lib.hid hown
      have HC := Lib.hid hchg
      have hjl : j < ((markBB k xs).take j ++ xs.drop j).length := by have := HM.out; simp; omega
      obtain ⟨b, hbF, ha, hb, hst⟩ := HO.out.storeE j hjl
      subst ha
      obtain ⟨G, cs, hGF, hGn, _, hG, hcell, hself, hback⟩ := HO.out.re hF j hjl
      rw [mix_get _ _ HM.out j hlt] at hG
      obtain ⟨u, rfl, hu⟩ := hG
      have hq := hcell 0 u rfl
      simp only [bytesSh_sz, Nat.mul_one, Nat.add_zero] at hq
      have hs := sumLen_take_succ xs j hlt
      have ht := sumLen_take_le xs (j + 1)
      have HS := Lib.hid hs
      have HB := Lib.hid hback
      have HSelf := Lib.hid hself
      have HG := Lib.hid hGF
      have hkb : k + sumLen (xs.take j) ≤ 1000000000 := by omega
      have hxb : xs[j].length ≤ 1000000000 := by omega
      clear hown hchg hst hcell hback hself hs hGF ht
      go_wp2_with fail
      refine (markByteS_calls _ _ _ _ _ hu (by omega) hkb hxb).mono ?_
      rintro e w1 ⟨rfl, hu1, hc1⟩
      have HU := Lib.hid hu1
      have HC1 := Lib.hid hc1
      clear hu1 hc1 hu
      go_wp2
      go_roundw
      case rel =>
        refine ⟨j + 1, by omega, by rw [HS.out]; congr 1; omega, by go_num, ?_, HC.out.step HC1.out (fun k hk => .inl (HG.out k hk).1)⟩
        have h2 := HB.out w1 [u] (markB (k + sumLen (xs.take j)) xs[j]) ⟨u, rfl, HU.out⟩ (by rw [HSelf.out]; exact HC1.out.block b hb (fun hm => (HG.out b hm).2 rfl)) (fun q hq hqb hqG => HC1.out.block q (HO.out.lt q hq) hqG)
        have hjm : j < (markBB k xs).length := by rw [HM.out]; exact hlt
        rw [← markBB_get xs k j hjm hlt, mix_set _ _ HM.out j hjm] at h2
        exact h2
      case measure => simp [intOf]; omega
    · have HT := Lib.hid (sumLen_take_all xs j (by omega))
      go_wp2
      go_ret
      rw [List.take_of_length_le (by rw [HM.out]; omega), List.drop_of_length_le (by omega), List.append_nil] at hown
      exact ⟨ret_int (by rw [HT.out]), hown, hchg⟩

set_option maxHeartbeats 1000000 in
theorem heldByteSS_calls (v : Value) (k : Int) (xs : List (List UInt8)) (S : Nat → Prop) (w : World) (h : SlRd bytesSh S w v (markBB k xs)) (hk : 0 ≤ k) (hx : k + sumLen xs ≤ 1000000000) :
    Calls Try.prog 66 #[v, .int .i64 k] w fun e w' => e = .returned (.int .i64 (k + sumLen xs)) ∧ w = w' := by
  obtain ⟨a, c, rfl, hc1, hc2⟩ := h.form
  have hb := h.bound
  have hml := markBB_length xs k
  have HM := Lib.hid hml
  rw [hml] at hc1 hb
  rw [hml] 
  clear hml
  go_enter Try.func66, Try.ntmps66
  go_wp2
  go_loop [1, 5] (fun kk i => ∃ j : Nat, j ≤ xs.length ∧ kk = .int .i64 (k + sumLen (xs.take j)) ∧ i = .int .i64 j) (fun _ i => xs.length - (intOf i).toNat)
  case atStart => exact ⟨0, by omega, by simp [sumLen], rfl⟩
  case round =>
    obtain ⟨j, hj, rfl, rfl⟩ := hrel
    by_cases hlt : j < xs.length
    · have hjm : j < (markBB k xs).length := by rw [HM.out]; exact hlt
      obtain ⟨b, o, u, rfl, _, hb, hcell, hr⟩ := h.cellS j hjm
      rw [markBB_get xs k j hjm hlt] at hr
      have hs := sumLen_take_succ xs j hlt
      have ht := sumLen_take_le xs (j + 1)
      have HS := Lib.hid hs
      have hkb : k + sumLen (xs.take j) ≤ 1000000000 := by omega
      have hxb : xs[j].length ≤ 1000000000 := by omega
      clear hs ht
      go_wp2_with (go_at_call 95; refine (heldByteS_calls _ _ _ S _ hr (by omega) hkb hxb).mono ?_; rintro e w1 ⟨rfl, rfl⟩)
      go_round
      case rel => exact ⟨j + 1, by omega, by rw [HS.out]; congr 1; omega, by go_num⟩
      case measure => simp [intOf]; omega
    · have HT := Lib.hid (sumLen_take_all xs j (by omega))
      go_wp2
      go_ret
      exact ⟨ret_int (by rw [HT.out]), rfl⟩

set_option maxHeartbeats 1000000 in
theorem markPendS_calls (v : Value) (k : Int) (xs : List PendD) (F : List Nat) (w : World) (h : SlOwn pendSh 121 F w v xs) (hF : F.Nodup) (hk : 0 ≤ k) (hx : k + szPS xs ≤ 1000000000) :
    Calls Try.prog 60 #[v, .int .i64 k] w fun e w' => e = .returned (.int .i64 (k + szPS xs)) ∧ SlOwn pendSh 121 F w' v (markPS k xs) ∧ Chg F w w' := by
  obtain ⟨a, c, rfl, hc1, hc2⟩ := h.rd.form
  have hb := h.rd.bound
  have HM := Lib.hid (markPS_length xs k)
  unfold szPS at hx ⊢
  go_enter Try.func60, Try.ntmps60
  go_wp2
  go_loopw [1, 5] (fun kk i wr => ∃ j : Nat, j ≤ xs.length ∧ kk = .int .i64 (k + j + sumLen ((xs.map PendD.data).take j)) ∧ i = .int .i64 j ∧ SlOwn pendSh 121 F wr (.slice a xs.length c) ((markPS k xs).take j ++ xs.drop j) ∧ Chg F w wr) (fun _ i _ => xs.length - (intOf i).toNat)
  case atStart => exact ⟨0, by omega, by simp [sumLen], rfl, by simpa using h, Chg.refl _ _⟩
  case round =>
    obtain ⟨j, hj, rfl, rfl, hown, hchg⟩ := hrel
    by_cases hlt : j < xs.length
    · have HO := Lib.hid hown
      have HC := Lib.hid hchg
      have hjl : j < ((markPS k xs).take j ++ xs.drop j).length := by have := HM.out; simp; omega
      obtain ⟨b, hbF, ha, hb, hst⟩ := HO.out.storeE j hjl
      subst ha
      obtain ⟨G, cs, hGF, hGn, _, hG, hcell, hself, hback⟩ := HO.out.re hF j hjl
      rw [mix_get _ _ HM.out j hlt] at hG
      obtain ⟨c0, c1, G0, G1, rfl, rfl, ⟨rfl, rfl⟩, u, rfl, hu⟩ := hG
      have hq := hcell 0 _ rfl
      have hq1 := hcell 1 _ rfl
      have hz := (hst 0 (by decide)).2
      simp only [pendSh_sz, Nat.add_zero] at hq hq1 hz
      have hs := sumLen_take_succ (xs.map PendD.data) j (by simpa using hlt)
      have ht := sumLen_take_le (xs.map PendD.data) (j + 1)
      simp only [List.getElem_map] at hs
      have HS := Lib.hid hs
      have HB := Lib.hid hback
      have HSelf := Lib.hid hself
      have HG := Lib.hid hGF
      have hkb : k + j + sumLen ((xs.map PendD.data).take j) + 1 ≤ 1000000000 := by omega
      have hxb : xs[j].data.length ≤ 1000000000 := by omega
      have hu' : SlOwn byte 5 G1 (wr.setCell ⟨b, j * 2, none⟩ (.int .i64 (k + j + sumLen ((xs.map PendD.data).take j)))) u xs[j].data := hu.far (fun hm => (hGF b (by simpa using hm)).2 rfl) _
      clear hown hchg hst hcell hback hself hs hGF ht hu
      go_wp2_with fail
      refine (markByteS_calls _ _ _ _ _ hu' (by omega) hkb hxb).mono ?_
      rintro e w1 ⟨rfl, hu1, hc1⟩
      have HU := Lib.hid hu1
      have HC1 := Lib.hid hc1
      clear hu1 hc1 hu'
      go_wp2
      go_roundw
      case rel =>
        refine ⟨j + 1, by omega, by rw [HS.out]; congr 1; omega, by go_num, ?_, (HC.out.setCell (.inl hbF) _).step HC1.out (fun q hq => .inl (HG.out q (by simpa using hq)).1)⟩
        have hb1 : w1.heap[b]? = (putCells wr b (j * pendSh.sz) [.int .i64 (k + j + sumLen ((xs.map PendD.data).take j)), u]).heap[b]? := by
          rw [HC1.out.block b (by simpa [World.setCell] using hb) (fun hm => (HG.out b (by simpa using hm)).2 rfl)]
          obtain ⟨cells, e', fr, hh⟩ : ∃ cells e' fr, wr.heap[b]? = some (.cells cells e' fr) := by
            unfold World.cell? at hq
            split at hq
            · rename_i c1 e1 f1 hh; exact ⟨_, _, _, hh⟩
            · cases hq
          have hh1 := heap_setCell hh (j * 2) (.int .i64 (k + j + sumLen ((xs.map PendD.data).take j)))
          have h0 := putCells_self [u] (j * 2 + 1) _ hh1 (fun i v hv => by
            rcases i with _ | i
            · rw [cell_at hh] at hq1
              rw [Array.getElem?_setIfInBounds, if_neg (by omega), Nat.add_zero, hq1]; simpa using hv
            · simp at hv)
          rw [pendSh_sz]
          exact h0.symm
        have h2 := HB.out w1 [.int .i64 (k + j + sumLen ((xs.map PendD.data).take j)), u] ⟨k + j + sumLen ((xs.map PendD.data).take j), markB (k + j + sumLen ((xs.map PendD.data).take j) + 1) xs[j].data⟩ ⟨[_], [u], [], G1, rfl, rfl, ⟨rfl, rfl⟩, u, rfl, HU.out⟩ hb1
          (fun q hq hqb hqG => by
            rw [HC1.out.block q (by have := HO.out.lt q hq; simpa [World.setCell] using this) (by simpa using hqG)]
            exact Below.heap_setCell _ _ _ _ hqb)
        have hjm : j < (markPS k xs).length := by rw [HM.out]; exact hlt
        rw [← markPS_get xs k j hjm hlt, mix_set _ _ HM.out j hjm] at h2
        exact h2
      case measure => simp [intOf]; omega
    · have HT := Lib.hid (sumLen_take_all (xs.map PendD.data) j (by simp; omega))
      go_wp2
      go_ret
      obtain rfl : j = xs.length := by omega
      rw [List.take_of_length_le (by rw [HM.out]; omega), List.drop_of_length_le (by omega), List.append_nil] at hown
      exact ⟨ret_int (by rw [HT.out]; omega), hown, hchg⟩

set_option maxHeartbeats 1000000 in
theorem heldPendS_calls (v : Value) (k : Int) (xs : List PendD) (S : Nat → Prop) (w : World) (h : SlRd pendSh S w v (markPS k xs)) (hk : 0 ≤ k) (hx : k + szPS xs ≤ 1000000000) :
    Calls Try.prog 67 #[v, .int .i64 k] w fun e w' => e = .returned (.int .i64 (k + szPS xs)) ∧ w = w' := by
  obtain ⟨a, c, rfl, hc1, hc2⟩ := h.form
  have hb := h.bound
  have hml := markPS_length xs k
  have HM := Lib.hid hml
  rw [hml] at hc1 hb
  rw [hml]
  clear hml
  unfold szPS at hx ⊢
  go_enter Try.func67, Try.ntmps67
  go_wp2
  go_loop [1, 5] (fun kk i => ∃ j : Nat, j ≤ xs.length ∧ kk = .int .i64 (k + j + sumLen ((xs.map PendD.data).take j)) ∧ i = .int .i64 j) (fun _ i => xs.length - (intOf i).toNat)
  case atStart => exact ⟨0, by omega, by simp [sumLen], rfl⟩
  case round =>
    obtain ⟨j, hj, rfl, rfl⟩ := hrel
    by_cases hlt : j < xs.length
    · have hjm : j < (markPS k xs).length := by rw [HM.out]; exact hlt
      obtain ⟨b, o, u, rfl, _, hb, hcell, hcell1, hr⟩ := pend_cell h j hjm
      rw [markPS_get xs k j hjm hlt] at hr hcell
      have hs := sumLen_take_succ (xs.map PendD.data) j (by simpa using hlt)
      have ht := sumLen_take_le (xs.map PendD.data) (j + 1)
      simp only [List.getElem_map] at hs
      have HS := Lib.hid hs
      have hkb : k + j + sumLen ((xs.map PendD.data).take j) + 1 ≤ 1000000000 := by omega
      have hxb : xs[j].data.length ≤ 1000000000 := by omega
      have hne : (k + (j : Int) + (sumLen ((xs.map PendD.data).take j) : Int) != k + j + sumLen ((xs.map PendD.data).take j)) = false := by simp
      clear hs ht
      go_wp2_with (go_at_call 95; refine (heldByteS_calls _ _ _ S _ hr (by omega) hkb hxb).mono ?_; rintro e w1 ⟨rfl, rfl⟩)
      go_round
      case rel => exact ⟨j + 1, by omega, by rw [HS.out]; congr 1; omega, by go_num⟩
      case measure => simp [intOf]; omega
    · have HT := Lib.hid (sumLen_take_all (xs.map PendD.data) j (by simp; omega))
      go_wp2
      go_ret
      obtain rfl : j = xs.length := by omega
      exact ⟨ret_int (by rw [HT.out]; omega), rfl⟩

set_option maxHeartbeats 1000000 in
theorem markDisk_calls (a b : Value) (k : Int) (D : DiskD) (F : List Nat) (w : World) (h : DiskOwn F w a b D) (hF : F.Nodup) (hk : 0 ≤ k) (hx : k + szD D ≤ 1000000000) :
    Calls Try.prog 20 #[.agg #[a, b], .int .i64 k] w fun e w' => e = .returned (.int .i64 (k + sumLen D.safe + szPS D.pend)) ∧ DiskOwn F w' a b (markD k D) ∧ Chg F w w' := by
  obtain ⟨F1, F2, rfl, h1, h2⟩ := h
  rw [List.nodup_append] at hF
  have HFd := Lib.hid hF
  have hx1 : k + sumLen D.safe ≤ 1000000000 := by unfold szD szSS at hx; omega
  have hx2 : k + sumLen D.safe + szPS D.pend ≤ 1000000000 := by unfold szD szSS at hx; omega
  have H1 := Lib.hid h1
  have H2 := Lib.hid h2
  clear h1 h2 hF
  have HCa := Lib.hid ((Chg.refl [] w).alloc (.cells #[a, b] 26))
  go_enter Try.func20, Try.ntmps20
  go_wp2_with fail
  refine (markByteSS_calls _ _ _ F1 _ (H1.out.up HCa.out) HFd.out.1 hk hx1).mono ?_
  rintro e w1 ⟨rfl, k1, hc1⟩
  have hbk : w1.cell? ⟨w.heap.size, 1, none⟩ = some b := by
    rw [World.cell?_of_block (w := w.alloc (.cells #[a, b] 26)) (hc1.block _ (by simp) (fun hm => by have := H1.out.lt _ hm; simp at this))]
    simp [World.cell?_alloc_at]
  have K1 := Lib.hid k1
  have HC1 := Lib.hid hc1
  clear k1 hc1
  go_wp2_with fail
  have h2' : SlOwn pendSh 121 F2 w1 b D.pend := (H2.out.up HCa.out).mono (HC1.out.same (fun q hq => ⟨by have := H2.out.lt q hq; simp; omega, fun hm => HFd.out.2.2 q hm q hq rfl⟩))
  refine (markPendS_calls _ _ _ F2 _ h2' HFd.out.2.1 (by omega) hx2).mono ?_
  rintro e w2 ⟨rfl, k2, hc2⟩
  have K2 := Lib.hid k2
  have HC2 := Lib.hid hc2
  clear k2 hc2 h2'
  go_wp2
  go_ret
  refine ⟨rfl, ⟨F1, F2, rfl, K1.out.mono (HC2.out.same (fun q hq => ⟨K1.out.lt q hq, fun hm => HFd.out.2.2 q hq q hm rfl⟩)), K2.out⟩, ?_⟩
  exact (((HCa.out.mono (by simp)).step HC1.out (fun q hq => .inl (List.mem_append_left _ hq))).step HC2.out (fun q hq => .inl (List.mem_append_right _ hq)))

set_option maxHeartbeats 1000000 in
theorem heldDisk_calls (a b : Value) (k : Int) (D : DiskD) (S : Nat → Prop) (w : World) (h : DiskRd S w a b (markD k D)) (hS : ∀ b, S b → b < w.heap.size) (hk : 0 ≤ k) (hx : k + szD D ≤ 1000000000) :
    Calls Try.prog 28 #[.agg #[a, b], .int .i64 k] w fun e w' => e = .returned (.int .i64 (k + sumLen D.safe + szPS D.pend)) ∧ Chg [] w w' := by
  have hx1 : k + sumLen D.safe ≤ 1000000000 := by unfold szD szSS at hx; omega
  have hx2 : k + sumLen D.safe + szPS D.pend ≤ 1000000000 := by unfold szD szSS at hx; omega
  have HCa := Lib.hid ((Chg.refl [] w).alloc (.cells #[a, b] 26))
  have h1 := Lib.hid (h.1.up hS HCa.out)
  have h2 := Lib.hid (h.2.up hS HCa.out)
  clear h
  go_enter Try.func28, Try.ntmps28
  go_wp2_with fail
  refine (heldByteSS_calls _ _ _ S _ h1.out hk hx1).mono ?_
  rintro e w1 ⟨rfl, rfl⟩
  go_wp2_with fail
  refine (heldPendS_calls _ _ _ S _ h2.out (by omega) hx2).mono ?_
  rintro e w1 ⟨rfl, rfl⟩
  go_wp2
  go_ret
  exact ⟨rfl, HCa.out⟩
end Go.Proofs.Ytjolhaefnloaoaa
