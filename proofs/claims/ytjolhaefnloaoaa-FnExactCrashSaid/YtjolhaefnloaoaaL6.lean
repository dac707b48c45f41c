/- Regions that read, make one call, and then only move what it gave: one way for all orders. -/
import Derived.Test.YtjolhaefnloaoaaM1
import Derived.StillTailTactics
import Derived.Tactics2
namespace Go.Proofs.Ytjolhaefnloaoaa
open Go Go.RowKit

section
variable {P : Program} {ops : Array Oper} {md : Region.Mode} {w : World}

/-- Every operation behind n waits for one that is not ahead of n. -/
def behindB (md : Region.Mode) (ops : Array Oper) (n : Nat) : Bool :=
  (List.range ops.size).all fun t => decide (t ≤ n) || (List.range t).any fun s => decide (n ≤ s) && Region.waitsFor md ops t s

theorem none_behind {n : Nat} {listed : Array Bool} (hs : Region.sinkB md ops n = true) (hc : behindB md ops n = true) (inv : HeadInv md ops n listed) (hn : n < ops.size) :
    ∀ (d i : Nat), n - i = d → i < n → listed.getD i true = false → ∀ t ∈ Region.ready md ops listed, t < n := by
  intro d
  induction d using Nat.strongRecOn with
  | _ d ih =>
    intro i hd hin hi t ht
    rcases Nat.lt_trichotomy t n with htn | rfl | htn
    · exact htn
    · exfalso
      obtain ⟨j, hj, hw⟩ := List.any_eq_true.1 (List.all_eq_true.1 hs i (List.mem_range.2 hin))
      obtain ⟨hij, hw⟩ := Bool.and_eq_true_iff.1 hw
      have hij := of_decide_eq_true hij
      have hjn : j ≤ t := Nat.le_of_lt_succ (List.mem_range.1 hj)
      obtain ⟨oj, hoj, e, he, hb, rfl⟩ := Region.waitsFor_spec hw
      have hno : ¬ listed.getD e.on false = true := by rw [getD_both hi]; decide
      rcases Nat.lt_or_eq_of_le hjn with hjt | rfl
      · have hju : listed.getD j true = false := by
          refine getD_in (by rw [inv.size]; omega) ?_
          cases hl : listed.getD j false with
          | false => rfl
          | true => exact absurd (inv.closed j oj hoj hl e he hb) hno
        exact Nat.lt_irrefl t (ih (t - j) (by omega) j rfl hjt hju t ht)
      · obtain ⟨_, o, ho, hall⟩ := mem_ready.1 ht
        cases Option.some.inj (hoj.symm.trans ho)
        exact hno (hall e he hb)
    · exfalso
      obtain ⟨_, o, ho, hall⟩ := mem_ready.1 ht
      have hlt : t < ops.size := (Array.getElem?_eq_some_iff.1 ho).1
      rcases Bool.or_eq_true_iff.1 (List.all_eq_true.1 hc t (List.mem_range.2 hlt)) with h | h
      · have := of_decide_eq_true h; omega
      · obtain ⟨s, hsr, hs2⟩ := List.any_eq_true.1 h
        obtain ⟨hns, hw⟩ := Bool.and_eq_true_iff.1 hs2
        have hns := of_decide_eq_true hns
        have hst := List.mem_range.1 hsr
        obtain ⟨o', ho', e, he, hb, rfl⟩ := Region.waitsFor_spec hw
        cases Option.some.inj (ho'.symm.trans ho)
        have h1 := hall e he hb
        rw [getD_both (inv.tail e.on hns (by omega))] at h1
        cases h1

theorem head_first {n i : Nat} {oi : Oper} {v : Value} {L : Array Bool → Act → Prop} (hi : ops[i]? = some oi) (hsel : ∀ (j : Nat) (o : Oper) cs b, ops[j]? = some o → o.op ≠ .select cs b)
    (hs : Region.sinkB md ops n = true) (hc : behindB md ops n = true) (hn : n < ops.size) (hin : i < n) (hdone : ∀ listed a, L listed a → ∀ j ∈ Region.ready md ops listed, n ≤ j) :
    ∀ (f : Nat) (listed : Array Bool) (a : Act), HeadInv md ops n listed →
      (∀ j oj, ops[j]? = some oj → j ≠ i → listed.getD j true = false → (∀ e ∈ oj.after, Region.binds md e = true → e.on ≠ i) → oi.apart ops oj = true) →
      i ∈ Region.ready md ops listed → YieldsAt P ops w oi v a → wpAnyL P md ops w n L f (listed.setIfInBounds i true) (a.put oi.dst v) → wpAnyL P md ops w n L (f + 1) listed a := by
  intro f
  induction f with
  | zero =>
    intro listed a inv _ hr hy H
    refine ⟨List.ne_nil_of_mem hr, fun j hj => ?_⟩
    have hjn := none_behind hs hc inv hn _ i rfl hin (mem_ready.1 hr).1 j hj
    rcases Decidable.em (j = i) with rfl | hne
    · exact ⟨hjn, hy.stOp hi H⟩
    · exact absurd (hdone _ _ H j (ready_mono hj hne)) (by omega)
  | succ f ih =>
    intro listed a inv hfree hr hy H
    refine ⟨List.ne_nil_of_mem hr, fun j hj => ?_⟩
    have hun := (mem_ready.1 hr).1
    have hjn := none_behind hs hc inv hn _ i rfl hin hun j hj
    rcases Decidable.em (j = i) with rfl | hne
    · exact ⟨hjn, hy.stOp hi H⟩
    refine ⟨hjn, ?_⟩
    obtain ⟨hju, oj, hoj, hall⟩ := mem_ready.1 hj
    have hwait : ∀ e ∈ oj.after, Region.binds md e = true → e.on ≠ i := by
      intro e he hb h0
      have := hall e he hb
      rw [h0, getD_both hun] at this
      cases this
    refine stOp_mono ?_ (stOp_put hoj (hfree j oj hoj hne hju hwait) (fun cs b => hsel i oi cs b hi) (fun cs b => hsel j oj cs b hoj) hy (H.2 j (ready_mono hj hne)).2)
    rintro a' ⟨hy', H'⟩
    refine ih _ a' (inv.set hj hjn) (fun k ok hk hki hku hk0 => hfree k ok hk hki ?_ hk0) (ready_mono hr (Ne.symm hne)) hy' ?_
    · rcases Decidable.em (j = k) with rfl | hjk
      · exact hju
      · rwa [getD_set_ne true hjk] at hku
    · rwa [Array.setIfInBounds_comm _ _ hne]

/-- The first n in the text's order: each is ready and apart from the others; what is listed then. -/
def headB (md : Region.Mode) (ops : Array Oper) (n g : Nat) : Nat → Nat → Array Bool → Bool
  | 0, _, listed => decide (Region.ready md ops listed = [n]) && Region.lexFrom md ops g (n + 1) (listed.setIfInBounds n true)
  | f + 1, k, listed => (Region.ready md ops listed).contains k && Region.free md ops listed k && headB md ops n g f (k + 1) (listed.setIfInBounds k true)

theorem head_lex {n g : Nat} {Lq : Act → Prop} (hsel : Region.noSelect ops = true) (hs : Region.sinkB md ops n = true) (hc : behindB md ops n = true) (hn : n < ops.size) :
    ∀ (l : List Oper) (k : Nat) (listed : Array Bool) (a : Act), (∀ j, j < l.length → l[j]? = ops[k + j]?) → k + l.length = n → HeadInv md ops n listed →
    headB md ops n g l.length k listed = true → wpStill P ops w Lq l a →
    wpAnyL P md ops w n (fun listed' a' => (Region.ready md ops listed' = [n] ∧ Region.lexFrom md ops g (n + 1) (listed'.setIfInBounds n true) = true) ∧ Lq a') l.length listed a
  | [], _, _, _, _, _, _, hB, h => ⟨by simpa [headB] using hB, h⟩
  | o :: l, k, listed, a, hl, hk, inv, hB, h => by
    have h0 : ops[k]? = some o := by simpa using (hl 0 (by simp)).symm
    simp only [List.length_cons] at hk hB
    simp only [headB, Bool.and_eq_true] at hB
    have hkr : k ∈ Region.ready md ops listed := by simpa using hB.1.1
    obtain ⟨v, hy, hK⟩ := yieldsAt_of_stOp h0 (K := wpStill P ops w Lq l) (by unfold stOp; simp only [h0]; exact h)
    exact head_first h0 (Region.noSelect_spec hsel) hs hc hn (by omega) (fun listed' a' hL j hj => by rw [hL.1.1] at hj; exact Nat.le_of_eq (List.mem_singleton.1 hj).symm) l.length listed a inv (Region.free_spec h0 hB.1.2) hkr hy
      (head_lex hsel hs hc hn l (k + 1) _ _ (fun j hj => by have := hl (j + 1) (by simp; omega); simpa [Nat.add_assoc, Nat.add_comm 1 j] using this) (by omega) (inv.set hkr (by omega)) hB.2 hK)

/-- The whole test on a region, by evaluation. -/
def oneCallB (md : Region.Mode) (ops : Array Oper) (n : Nat) : Bool :=
  Region.noSelect ops && decide (n < ops.size) && Region.sinkB md ops n && behindB md ops n && headB md ops n (ops.size - n - 1) n 0 (Array.replicate ops.size false)

/-- What is left behind the call: reads and moves. -/
def TailPost (P : Program) (ops : Array Oper) (Q : Exit → Act → World → Prop) (rest : List Oper) : Exit → Act → World → Prop
  | .normal, a, w => wpStill P ops w (fun a' => Q .normal a' w) rest a
  | e, a, w => Q e a w

theorem oper_wp_post {o : Oper} {a : Act} {w : World} {K K' : Act → World → Prop} {Q Q' : Exit → Act → World → Prop} (hK : ∀ a w, K a w → K' a w) (hQ : ∀ c a w, Q (.panic c) a w → Q' (.panic c) a w) (hO : LetsOut Q → LetsOut Q')
    (h : o.wp P a w K Q) : o.wp P a w K' Q' := by
  unfold Oper.wp at *
  generalize (execOp a.eval o).run P w = r at *
  cases r with
  | ok n w' =>
    cases n <;> simp only [Oper.upon] at h ⊢ <;>
      first
        | exact hK _ _ h
        | exact Calls.mono h (fun e w'' he => by cases e <;> first | exact hK _ _ he | exact hQ _ _ _ he | exact hO he)
        | exact Rows.mono h (fun _ _ he => hK _ _ he)
  | halt x w' => cases x <;> simp only [Oper.upon] at h ⊢ <;> first | exact h | exact hQ _ _ _ h

theorem wpOp_of_one {Q : Exit → Act → World → Prop} {a : Act} {w : World} {n : Nat} {o : Oper} {rest : List Oper} (ho : ops[n]? = some o)
    (h : wpList P ops (TailPost P ops Q rest) [o] a w) : wpOp P ops Q n (fun a2 w2 => wpStill P ops w2 (fun a3 => Q .normal a3 w2) rest a2) a w := by
  unfold wpOp
  simp only [ho]
  simp only [wpList] at h
  have hO : LetsOut (TailPost P ops Q rest) → LetsOut Q := fun ⟨a, w, h⟩ => ⟨a, w, h⟩
  split
  · rename_i hw
    simp only [hw, if_true] at h
    exact h.imp (oper_wp_post (fun _ _ h => h) (fun _ _ _ h => h) hO) (fun h => ⟨h.1, hO h.2⟩)
  · rename_i hw
    simp only [hw] at h
    exact h

theorem wp_region_one_call {id : Nat} {Q : Exit → Act → World → Prop} {a : Act} {w : World} {l : List Oper} (n : Nat) (hm : P.follows .mixedOrders = true) (hB : oneCallB .any l.toArray n = true) {o : Oper}
    (ho : l[n]? = some o)
    (h : wpStill P l.toArray w.drew (fun a' => wpList P l.toArray (TailPost P l.toArray Q (l.drop (n + 1))) [o] a' w.drew) (l.take n) a) :
    (Code.region id l.toArray true).wp P Q a w := by
  simp only [oneCallB, Bool.and_eq_true, decide_eq_true_eq] at hB
  obtain ⟨⟨⟨⟨hsel, hn⟩, hs⟩, hc⟩, hh⟩ := hB
  have hn' : n < l.length := by simpa using hn
  have htl : (l.take n).length = n := by simp; omega
  have inv0 : HeadInv .any l.toArray n (Array.replicate l.toArray.size false) :=
    ⟨by simp, fun j oj _ hl => (by rw [getD_replicate_false] at hl; cases hl), fun t _ ht => getD_in (by simpa using ht) (getD_replicate_false _ _)⟩
  have H := head_lex (md := .any) (g := l.toArray.size - n - 1) hsel hs hc hn (l.take n) 0 _ a (fun j hj => by
    have hj' : j < n := by rw [htl] at hj; exact hj
    simp [hj']) (by simpa using htl) inv0 (by rw [htl]; exact hh) h
  refine wp_region_any hm ?_
  have := wpAny_of_head (Q' := Q) (g := l.toArray.size - n - 1 + 1) (fun listed a' hL => by
    obtain ⟨⟨hr, hlex⟩, hK⟩ := hL
    refine wpAny_all hr (by simp) (fun i hi => ?_)
    cases List.mem_singleton.1 hi
    refine wpOp_mono ?_ (wpOp_of_one (by simpa using ho) hK)
    intro a2 w2 h2
    have hd : (l.drop (n + 1)).length = l.toArray.size - n - 1 := by simp; omega
    have := wpAnyS_lex (md := .any) hsel (l.drop (n + 1)) (n + 1) (listed.setIfInBounds n true) a2 (fun j => by simp [List.getElem?_drop]) (by rw [hd]; exact hlex) h2
    rw [hd] at this
    exact wpAny_of_still (Q := fun a3 => Q .normal a3 w2) (fun _ h => h) _ _ _ this) _ _ _ H
  rw [htl, show n + (l.toArray.size - n - 1 + 1) = l.toArray.size by omega] at this
  exact this

end

theorem wrap_small {x : Int} (h0 : -4611686018427387904 ≤ x) (h1 : x ≤ 4611686018427387904) : IntKind.i64.wrap x = x := by rw [IntKind.wrap_i64]; omega
end Go.Proofs.Ytjolhaefnloaoaa
