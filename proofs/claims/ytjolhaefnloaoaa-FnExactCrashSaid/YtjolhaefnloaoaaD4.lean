/- A device of a disk: its last writes. -/
import Derived.Test.YtjolhaefnloaoaaD3
import Derived.Test.YtjolhaefnloaoaaL7
import Derived.Test.YtjolhaefnloaoaaC0
namespace Go.Proofs.Ytjolhaefnloaoaa
open Go.RowKit Sh

/-- The number of the last write to each sector. -/
def lastStep (s : Nat × (Int → Option Nat)) (p : PendD) : Nat × (Int → Option Nat) := (s.1 + 1, fun x => if x = p.pos then some s.1 else s.2 x)
def lastSt (ps : List PendD) : Nat × (Int → Option Nat) := ps.foldl lastStep (0, fun _ => none)
def lastOf (ps : List PendD) : Int → Option Nat := (lastSt ps).2
theorem lastSt_len (ps : List PendD) : (lastSt ps).1 = ps.length := by
  suffices h : ∀ (ps : List PendD) (s : Nat × (Int → Option Nat)), (ps.foldl lastStep s).1 = s.1 + ps.length by simpa [lastSt] using h ps (0, fun _ => none)
  intro ps
  induction ps with
  | nil => intro s; rfl
  | cons p ps ih => intro s; simp only [List.foldl_cons, ih, List.length_cons, lastStep]; omega
theorem lastOf_snoc (ps : List PendD) (p : PendD) : lastOf (ps ++ [p]) = fun x => if x = p.pos then some ps.length else lastOf ps x := by
  unfold lastOf
  have := lastSt_len ps
  unfold lastSt at *
  simp only [List.foldl_append, List.foldl_cons, List.foldl_nil, lastStep, this]
def lastV (ps : List PendD) : Int → Option Value := fun x => (lastOf ps x).map (fun i => .int .i64 (i : Int))

theorem lastV_snoc (ps : List PendD) (p : PendD) : lastV (ps ++ [p]) = fun x => if x = p.pos then some (.int .i64 (ps.length : Int)) else lastV ps x := by
  unfold lastV
  rw [lastOf_snoc]
  funext x
  split <;> simp_all

theorem under_int : Try.prog.underlying 3 = some (.int .i64) := Try.underlying3

/-- A device at work: its block, its map's block. -/
def Dev (w : World) (B M : Nat) (v1 v2 : Value) (k : Int) (n : Nat) (f : Int → Option Value) : Prop :=
  w.heap[B]? = some (.cells #[.int .i32 k, .int .u32 0, v1, v2, .map (some M)] 88 (0, 0)) ∧ MapI Try.prog 3 w M n f ∧ B ≠ M

def PosOk (ps : List PendD) : Prop := ∀ p ∈ ps, (Lit.int .i64 p.pos).wf = true

set_option maxRecDepth 100000 in
set_option maxHeartbeats 2000000 in
theorem deviceOf_calls (v1 v2 : Value) (D : DiskD) (S : Nat → Prop) (w : World) (h : DiskRd S w v1 v2 D) (hS : ∀ b, S b → b < w.heap.size) (hp : PosOk D.pend) (hl : D.pend.length ≤ 1048576) :
    Calls Try.prog 37 #[.agg #[v1, v2]] w fun e w' => ∃ B M, e = .returned (.pointer (some ⟨B, 0, none⟩)) ∧ Dev w' B M v1 v2 0 D.pend.length (lastV D.pend) ∧ w.heap.size ≤ B ∧ w.heap.size ≤ M ∧ Chg [] w w' := by
  obtain ⟨h1, h2⟩ := h
  obtain ⟨a1, c1, rfl, _, _⟩ := h1.form
  obtain ⟨a2, c2, rfl, _, _⟩ := h2.form
  have hb1 := h1.bound
  have hb2 := h2.bound
  have hmm := @run_makeMap Try.prog
  have HP := Lib.hid hp
  have HH2 := Lib.hid h2
  clear hp h2 h1
  obtain ⟨N, hN⟩ : ∃ N, N = w.heap.size := ⟨_, rfl⟩
  obtain ⟨W0, hW0⟩ : ∃ W0 : World, W0 = (((w.alloc (.cells #[.slice a1 D.safe.length c1, .slice a2 D.pend.length c2] 26)).alloc (.map #[] 0)).alloc (.cells #[.int .i32 0, .int .u32 0, .slice a1 D.safe.length c1, .slice a2 D.pend.length c2, .map (some (w.heap.size + 1))] 88)) := ⟨_, rfl⟩
  have HWs := Lib.hid (show W0.heap.size = N + 3 by rw [hW0, hN]; simp)
  have HX0 := Lib.hid (show W0.heap[N + 1 + 1]? = some (.cells #[.int .i32 0, .int .u32 0, .slice a1 D.safe.length c1, .slice a2 D.pend.length c2, .map (some (N + 1))] 88 (0, 0)) by rw [hW0, hN]; exact alloc_at (by simp))
  have HM0 := Lib.hid (show MapI Try.prog 3 W0 (N + 1) 0 (lastV (D.pend.take 0)) by
    have h0 := MapI.made Try.prog 3 (w.alloc (.cells #[.slice a1 D.safe.length c1, .slice a2 D.pend.length c2] 26))
    rw [hW0, hN]
    have h1 : (w.alloc (.cells #[.slice a1 D.safe.length c1, .slice a2 D.pend.length c2] 26)).heap.size = w.heap.size + 1 := by simp
    rw [h1] at h0
    exact h0.up (F := []) ((Chg.refl _ _).alloc _) (by simp))
  have HW := Lib.hid (show Chg [] w W0 by rw [hW0]; exact (((Chg.refl [] w).alloc _).alloc _).alloc _)
  go_enter Try.func37, Try.ntmps37
  go_wp2
  rw [← hW0, ← hN]
  clear hW0
  have HNS := Lib.hid (show ∀ b, S b → b < N from fun b hb => hN ▸ hS b hb)
  clear hS
  have HN := Lib.hid hN
  clear hN
  go_loopw [13] (fun i wr => ∃ q : Nat, q ≤ D.pend.length ∧ i = .int .i64 q ∧ wr.heap[N + 1 + 1]? = some (.cells #[.int .i32 0, .int .u32 0, .slice a1 D.safe.length c1, .slice a2 D.pend.length c2, .map (some (N + 1))] 88 (0, 0)) ∧ MapI Try.prog 3 wr (N + 1) q (lastV (D.pend.take q)) ∧ Chg [N + 1] W0 wr) (fun i _ => D.pend.length - (intOf i).toNat)
  case atStart => exact ⟨0, by omega, rfl, HX0.out, HM0.out, Chg.refl _ _⟩
  case round =>
    obtain ⟨q, hq, rfl, hX, hM, hchg⟩ := hrel
    have hNw := HWs.out
    have hw1 : Chg [] w wr := HW.out.step hchg (fun b hb => .inr (by have := HN.out; simp at hb; omega))
    by_cases hlt : q < D.pend.length
    · obtain ⟨b, o, u, rfl, hSb, hbl, hcell, hcell2, hr⟩ := pend_cell (HH2.out.up (fun b hb => by have := HNS.out b hb; have := HN.out; omega) hw1) q hlt
      obtain ⟨au2, cu2, rfl, _, _⟩ := hr.form
      have hwf := HP.out _ (List.getElem_mem hlt)
      have hX0lt := lt_block hX
      obtain ⟨WA, hWA⟩ : ∃ WA : World, WA = wr.alloc (.cells #[.int .i64 D.pend[q].pos, .slice au2 D.pend[q].data.length cu2] 121) := ⟨_, rfl⟩
      have HWA := Lib.hid (show Chg [] wr WA by rw [hWA]; exact (Chg.refl _ _).alloc _)
      have hMc := alloc_at (o := .cells #[.int .i64 D.pend[q].pos, .slice au2 D.pend[q].data.length cu2] 121) (w := wr) rfl
      rw [← hWA] at hMc
      have hm0 : WA.cell? ⟨wr.heap.size, 0, none⟩ = some (.int .i64 D.pend[q].pos) := cell_block hMc 0
      have hXA := (HWA.out.block _ hX0lt (by simp)).trans hX
      have hxa : WA.cell? ⟨N + 1 + 1, 4, none⟩ = some (.map (some (N + 1))) := cell_block hXA 4
      have hMA := hM.up HWA.out (by simp)
      obtain ⟨w2, hrun, hM2, hc2⟩ := hMA.drew.store Try.underlying3 Try.underlying86 (by unfold maxLen; omega) hwf (.int .i64 (q : Int))
      have HX2 := Lib.hid ((hc2.block _ (lt_block hXA) (by simp)).trans hXA)
      have HM2 := Lib.hid hM2
      have HC2 := Lib.hid hc2
      have HC := Lib.hid hchg
      clear hX hM hchg hw1 hr hMc hXA hMA hM2 hc2 hwf
      go_wp2
      rw [← hWA]
      clear hWA
      go_still_tail 7, (by kernel_rfl)
      change wpList _ _ _ _ _ WA.drew
      go_wp2
      go_roundw
      case rel =>
        refine ⟨q + 1, by omega, by go_num, HX2.out, ?_, (HC.out.trans (HWA.out.mono (by simp))).drew.trans HC2.out⟩
        have hTl : (D.pend.take q).length = q := by simp; omega
        have := HM2.out
        rw [take_snoc D.pend q hlt, lastV_snoc, hTl]
        exact this
      case measure => simp [intOf]; omega
    · obtain rfl : q = D.pend.length := by omega
      rw [List.take_length] at hM
      have HM := Lib.hid hM
      have HX := Lib.hid hX
      have HC := Lib.hid hw1
      clear hM hX hw1 hchg
      go_wp2
      go_ret
      exact ⟨_, N + 1, rfl, ⟨HX.out, HM.out, by omega⟩, by have := HN.out; omega, by have := HN.out; omega, HC.out⟩
end Go.Proofs.Ytjolhaefnloaoaa
