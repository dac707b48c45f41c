/- Regions that draw their order, walked once along an order of the prover's choosing: reads are taken first where a condition on the world holds; each act is then the only operation that may come. -/
import Derived.Test.YtjolhaefnloaoaaL6
import Derived.OrdersHeld
import Derived.Deep.RegionHeld3
namespace Go.Proofs.Ytjolhaefnloaoaa
open Go Go.RowKit

section
variable {P : Program} {ops : Array Oper} {Q : Exit → Act → World → Prop} {md : Region.Mode} {S : World → Prop} {g : Nat → Bool}

/-- Whatever order is picked; behind an operation that g marks S holds. -/
def wpAnyG (P : Program) (md : Region.Mode) (ops : Array Oper) (Q : Exit → Act → World → Prop) (S : World → Prop) (g : Nat → Bool) : Nat → Array Bool → Act → World → Prop
  | 0, listed, a, w => Region.ready md ops listed = [] ∧ Q .normal a w
  | f + 1, listed, a, w => (Region.ready md ops listed = [] → Q .normal a w) ∧
    ∀ i ∈ Region.ready md ops listed, wpOp P ops Q i (fun a' w' => (w' = w ∨ (g i = true → S w')) ∧ wpAnyG P md ops Q S g f (listed.setIfInBounds i true) a' w') a w

theorem any_of_G : ∀ (f : Nat) (listed : Array Bool) (a : Act) (w : World), wpAnyG P md ops Q S g f listed a w → wpAny P md ops Q f listed a w
  | 0, _, _, _, h => h
  | f + 1, _, _, _, h => ⟨h.1, fun i hi => wpOp_mono (fun a' w' h' => any_of_G f _ a' w' h'.2) (h.2 i hi)⟩

/-- What is listed has all that it waits for listed. -/
def Closed (md : Region.Mode) (ops : Array Oper) (listed : Array Bool) : Prop :=
  ∀ j oj, ops[j]? = some oj → listed.getD j false = true → ∀ e ∈ oj.after, Region.binds md e = true → listed.getD e.on false = true
theorem Closed.set {listed : Array Bool} {j : Nat} (h : Closed md ops listed) (hj : j ∈ Region.ready md ops listed) : Closed md ops (listed.setIfInBounds j true) := by
  intro k ok hk hl e he hb
  obtain ⟨_, o, ho, hall⟩ := mem_ready.1 hj
  rcases Decidable.em (j = k) with rfl | hne
  · cases Option.some.inj (ho.symm.trans hk)
    exact getD_set_true (hall e he hb)
  · rw [getD_set_ne false hne] at hl
    exact getD_set_true (h k ok hk hl e he hb)
theorem Closed.start (n : Nat) : Closed md ops (Array.replicate n false) := fun j _ _ hl => by rw [getD_replicate_false] at hl; cases hl

/-- j waits for i, at once or through others. -/
def blocked (md : Region.Mode) (ops : Array Oper) (i : Nat) : Nat → Nat → Bool
  | 0, _ => false
  | f + 1, j => match ops[j]? with | none => false | some oj => oj.after.any fun e => Region.binds md e && (e.on == i || blocked md ops i f e.on)
theorem blocked_spec {listed : Array Bool} {i : Nat} (hc : Closed md ops listed) (hi : listed.getD i false = false) : ∀ (f j : Nat), blocked md ops i f j = true → listed.getD j false = false ∧ j ∉ Region.ready md ops listed := by
  intro f
  induction f with
  | zero => intro j h; cases h
  | succ f ih =>
    intro j h
    unfold blocked at h
    split at h
    · cases h
    · rename_i oj hoj
      obtain ⟨e, he, hbe⟩ := Array.any_eq_true'.1 h
      simp only [Bool.and_eq_true, Bool.or_eq_true, beq_iff_eq] at hbe
      have hun : listed.getD e.on false = false := by
        rcases hbe.2 with h1 | h1
        · rw [h1]; exact hi
        · exact (ih _ h1).1
      refine ⟨?_, fun hr => ?_⟩
      · cases hl : listed.getD j false with
        | false => rfl
        | true => have := hc j oj hoj hl e he hbe.1; rw [hun] at this; cases this
      · obtain ⟨_, o, ho, hall⟩ := mem_ready.1 hr
        cases Option.some.inj (ho.symm.trans hoj)
        have := hall e he hbe.1
        rw [hun] at this; cases this

theorem anyG_first {T : World → Prop} {i : Nat} {oi : Oper} {v : Value} {listed0 : Array Bool} (hi : ops[i]? = some oi) (hsel : ∀ (j : Nat) (o : Oper) cs b, ops[j]? = some o → o.op ≠ .select cs b)
    (hQ : ∀ c a w, Q (.panic c) (a.put oi.dst v) w → Q (.panic c) a w)
    (hT : ∀ listed, Closed md ops listed → listed.getD i false = false → (∀ j, listed0.getD j true = true → listed.getD j true = true) → ∀ j ∈ Region.ready md ops listed, j ≠ i → ∀ w', (g j = true → S w') → T w') :
    ∀ (fuel : Nat) (listed : Array Bool) (a : Act) (w : World), Closed md ops listed → (∀ j, listed0.getD j true = true → listed.getD j true = true) →
      (∀ j oj, ops[j]? = some oj → j ≠ i → listed.getD j true = false → (∀ e ∈ oj.after, Region.binds md e = true → e.on ≠ i) → oi.apart ops oj = true) →
      i ∈ Region.ready md ops listed → YieldsIf P ops T oi v a → T w →
      wpAnyG P md ops Q S g fuel (listed.setIfInBounds i true) (a.put oi.dst v) w → wpAnyG P md ops Q S g (fuel + 1) listed a w := by
  intro fuel
  induction fuel with
  | zero =>
    intro listed a w _ _ _ hr hy hTw H
    refine ⟨fun h => (by rw [h] at hr; cases hr), fun j hj => ?_⟩
    rcases Decidable.em (j = i) with rfl | hne
    · exact hy.wpOp hi hTw ⟨.inl rfl, H⟩
    · have := ready_mono hj hne
      rw [H.1] at this
      cases this
  | succ fuel ih =>
    intro listed a w hc hsub hfree hr hy hTw H
    refine ⟨fun h => (by rw [h] at hr; cases hr), fun j hj => ?_⟩
    rcases Decidable.em (j = i) with rfl | hne
    · exact hy.wpOp hi hTw ⟨.inl rfl, H⟩
    have hun := (mem_ready.1 hr).1
    obtain ⟨hju, oj, hoj, hall⟩ := mem_ready.1 hj
    have hnot : ∀ e ∈ oj.after, Region.binds md e = true → e.on ≠ i := by
      intro e he hb h0
      have := hall e he hb
      rw [h0, getD_both hun] at this
      cases this
    have hTj := hT listed hc (getD_both hun) hsub j hj hne
    refine wpOp_mono ?_ (wpOp_putIf hoj (hfree j oj hoj hne hju hnot) (fun cs b => hsel i oi cs b hi) (fun cs b => hsel j oj cs b hoj) hQ hy (H.2 j (ready_mono hj hne)))
    rintro a' w' ⟨hy', hS', H'⟩
    refine ⟨hS', ih _ a' w' (hc.set hj) (fun k hk => ?_) (fun k ok hk hki hku hk0 => hfree k ok hk hki ?_ hk0) (ready_mono hr (Ne.symm hne)) hy' ?_ ?_⟩
    · rcases Decidable.em (j = k) with rfl | hjk
      · have := hsub j hk; rw [hju] at this; cases this
      · rw [getD_set_ne true hjk]; exact hsub k hk
    · rcases Decidable.em (j = k) with rfl | hjk
      · exact hju
      · rwa [getD_set_ne true hjk] at hku
    · rcases hS' with rfl | hS'
      · exact hTw
      · exact hTj w' hS'
    · rwa [Array.setIfInBounds_comm _ _ hne]

/-- A step along the order chosen: a read (one that needs S, or one that does not), or an act. -/
inductive St where
  | st (i : Nat)
  | pure (i : Nat)
  | ac (i : Nat)

def holdsB (md : Region.Mode) (ops : Array Oper) (g : Nat → Bool) (listed : Array Bool) (i : Nat) : Bool :=
  (List.range ops.size).all fun j => j == i || listed.getD j true || g j || blocked md ops i ops.size j

theorem holdsB_spec {listed0 : Array Bool} {i : Nat} (h : holdsB md ops g listed0 i = true) (listed : Array Bool) (hc : Closed md ops listed) (hi : listed.getD i false = false)
    (hsub : ∀ j, listed0.getD j true = true → listed.getD j true = true) : ∀ j ∈ Region.ready md ops listed, j ≠ i → ∀ w', (g j = true → S w') → S w' := by
  intro j hj hne w' hS
  have hr := mem_ready.1 hj
  obtain ⟨o, ho, _⟩ := hr.2
  have hlt : j < ops.size := (Array.getElem?_eq_some_iff.1 ho).1
  have h1 := List.all_eq_true.1 h j (List.mem_range.2 hlt)
  simp only [Bool.or_eq_true, beq_iff_eq] at h1
  rcases h1 with ((h1 | h1) | h1) | h1
  · exact absurd h1 hne
  · have := hsub j h1; rw [hr.1] at this; cases this
  · exact hS h1
  · exact absurd hj (blocked_spec hc hi _ _ h1).2

def okS (md : Region.Mode) (ops : Array Oper) (g : Nat → Bool) : Bool → List St → Array Bool → Bool
  | _, [], listed => (Region.ready md ops listed).isEmpty
  | known, .st i :: r, listed => known && (Region.ready md ops listed).contains i && Region.free md ops listed i && holdsB md ops g listed i && okS md ops g known r (listed.setIfInBounds i true)
  | known, .pure i :: r, listed => (Region.ready md ops listed).contains i && Region.free md ops listed i && okS md ops g known r (listed.setIfInBounds i true)
  | _, .ac i :: r, listed => decide (Region.ready md ops listed = [i]) && okS md ops g (g i) r (listed.setIfInBounds i true)

/-- Behind an act: S, where it is to hold on; and on along the order. -/
def KeepPost (Q : Exit → Act → World → Prop) (k : Bool) (S : World → Prop) (K : Act → World → Prop) : Exit → Act → World → Prop
  | .normal, a, w => (k = true → S w) ∧ K a w
  | e, a, w => Q e a w

def wpSched (P : Program) (ops : Array Oper) (Q : Exit → Act → World → Prop) (S : World → Prop) (g : Nat → Bool) : List St → Act → World → Prop
  | [], a, w => Q .normal a w
  | .st i :: r, a, w => ∃ o v, ops[i]? = some o ∧ YieldsIf P ops S o v a ∧ wpSched P ops Q S g r (a.put o.dst v) w
  | .pure i :: r, a, w => ∃ o v, ops[i]? = some o ∧ YieldsIf P ops (fun _ => True) o v a ∧ wpSched P ops Q S g r (a.put o.dst v) w
  | .ac i :: r, a, w => ∃ o, ops[i]? = some o ∧ wpList P ops (KeepPost Q (g i) S (wpSched P ops Q S g r)) [o] a w

theorem wpOp_of_keep {k : Bool} {K : Act → World → Prop} {a : Act} {w : World} {n : Nat} {o : Oper} (ho : ops[n]? = some o)
    (h : wpList P ops (KeepPost Q k S K) [o] a w) : wpOp P ops Q n (fun a2 w2 => (k = true → S w2) ∧ K a2 w2) a w := by
  unfold wpOp
  simp only [ho]
  simp only [wpList] at h
  have hO : LetsOut (KeepPost Q k S K) → LetsOut Q := fun ⟨a, w, h⟩ => ⟨a, w, h⟩
  split
  · rename_i hw
    simp only [hw, if_true] at h
    exact h.imp (oper_wp_post (fun _ _ h => h) (fun _ _ _ h => h) hO) (fun h => ⟨h.1, hO h.2⟩)
  · rename_i hw
    simp only [hw] at h
    exact h

theorem anyG_of_sched (hsel : Region.noSelect ops = true) (hQ : ∀ c a d v w, Q (.panic c) (a.put d v) w → Q (.panic c) a w) :
    ∀ (l : List St) (known : Bool) (listed : Array Bool) (a : Act) (w : World), okS md ops g known l listed = true → Closed md ops listed → (known = true → S w) → wpSched P ops Q S g l a w → wpAnyG P md ops Q S g l.length listed a w
  | [], _, listed, a, w, hB, _, _, h => ⟨by simpa [okS] using hB, h⟩
  | .st i :: r, known, listed, a, w, hB, hc, hS, h => by
    simp only [okS, Bool.and_eq_true] at hB
    obtain ⟨⟨⟨⟨hk, hr⟩, hf⟩, hh⟩, hB⟩ := hB
    obtain ⟨o, v, ho, hy, h⟩ := h
    have hir : i ∈ Region.ready md ops listed := by simpa using hr
    exact anyG_first (listed0 := listed) ho (Region.noSelect_spec hsel) (fun c a w => hQ c a o.dst v w) (holdsB_spec hh) r.length listed a w hc (fun _ h => h) (Region.free_spec ho hf) hir hy (hS hk)
      (anyG_of_sched hsel hQ r known _ _ _ hB (hc.set hir) hS h)
  | .pure i :: r, known, listed, a, w, hB, hc, hS, h => by
    simp only [okS, Bool.and_eq_true] at hB
    obtain ⟨⟨hr, hf⟩, hB⟩ := hB
    obtain ⟨o, v, ho, hy, h⟩ := h
    have hir : i ∈ Region.ready md ops listed := by simpa using hr
    exact anyG_first (T := fun _ => True) (listed0 := listed) ho (Region.noSelect_spec hsel) (fun c a w => hQ c a o.dst v w) (fun _ _ _ _ _ _ _ _ _ => trivial) r.length listed a w hc (fun _ h => h) (Region.free_spec ho hf) hir hy trivial
      (anyG_of_sched hsel hQ r known _ _ _ hB (hc.set hir) hS h)
  | .ac i :: r, known, listed, a, w, hB, hc, hS, h => by
    simp only [okS, Bool.and_eq_true, decide_eq_true_eq] at hB
    obtain ⟨hr, hB⟩ := hB
    obtain ⟨o, ho, h⟩ := h
    have hir : i ∈ Region.ready md ops listed := by rw [hr]; simp
    refine ⟨fun h0 => (by rw [hr] at h0; cases h0), fun j hj => ?_⟩
    rw [hr] at hj
    obtain rfl := List.mem_singleton.1 hj
    refine wpOp_mono ?_ (wpOp_of_keep ho h)
    rintro a2 w2 ⟨k1, k2⟩
    exact ⟨.inr k1, anyG_of_sched hsel hQ r (g j) _ _ _ hB (hc.set hir) k1 k2⟩

/-- The test on a region and an order, by evaluation. na: the acts behind which S need not hold. -/
def schedB (ops : Array Oper) (na : List Nat) (l : List St) : Bool := Region.noSelect ops && decide (l.length = ops.size) && okS .any ops (fun j => !na.contains j) true l (Array.replicate ops.size false)

/-- A region walked along an order of one's choosing. -/
theorem wp_region_sched {id : Nat} {a : Act} {w : World} {l : List Oper} (S : World → Prop) (na : List Nat) (s : List St) (hm : P.follows .mixedOrders = true) (hB : schedB l.toArray na s = true) (hS : S w.drew)
    (h : wpSched P l.toArray (NoPanic Q) S (fun j => !na.contains j) s a w.drew) : (Code.region id l.toArray true).wp P Q a w := by
  simp only [schedB, Bool.and_eq_true, decide_eq_true_eq] at hB
  obtain ⟨⟨hsel, hl⟩, hB⟩ := hB
  have := anyG_of_sched hsel (fun c a d v w h => h) s true _ a _ hB (Closed.start _) (fun _ => hS) h
  rw [hl] at this
  exact wp_region_noPanic (wp_region_any hm (any_of_G _ _ _ _ this))

/-- An operation's value where it leaves the world as it is. -/
def valUpon (next : Value → Prop) (w : World) : Result Next → Prop
  | .ok (.value v) w' => w' = w ∧ next v
  | _ => False
theorem valUpon_ok {next : Value → Prop} {w : World} {v : Value} (h : next v) : valUpon next w (.ok (.value v) w) := ⟨rfl, h⟩

theorem yields_mk {o : Oper} {v : Value} {a nxt : Act} (h : ∀ w', S w' → ∀ Kp : Value → Act → Prop, Kp v nxt → if Region.wanted o (yielded ops a.tmps) then valUpon (fun u => Kp u (a.put o.dst u)) w' ((execOp a.eval o).run P w') else Kp undef (a.put o.dst undef)) (hne : ∃ w, S w) :
    YieldsIf P ops S o v a ∧ nxt = a.put o.dst v := by
  obtain ⟨w, hw⟩ := hne
  have h1 := h w hw (fun u n => u = v ∧ n = nxt) ⟨rfl, rfl⟩
  split at h1
  · rename_i hwt
    have hv : ∀ w', S w' → (execOp a.eval o).run P w' = .ok (.value v) w' := fun w' hS' => by
      have := h w' hS' (fun u n => u = v ∧ n = nxt) ⟨rfl, rfl⟩
      simp only [hwt, if_true] at this
      generalize (execOp a.eval o).run P w' = r at *
      cases r with
      | ok n w2 =>
        cases n <;> simp [valUpon] at this ⊢
        exact ⟨this.2.1, this.1⟩
      | halt x w2 => simp [valUpon] at this
    refine ⟨.inl ⟨hwt, hv⟩, ?_⟩
    rw [hv w hw] at h1
    exact h1.2.2.symm
  · rename_i hwt
    exact ⟨.inr ⟨by simpa using hwt, h1.1.symm⟩, by rw [← h1.1]; exact h1.2.symm⟩

theorem sched_st {i : Nat} {r : List St} {o : Oper} {a : Act} {w : World} (ho : ops[i]? = some o) (hw : S w)
    (h : ∃ v nxt, (∀ w', S w' → ∀ Kp : Value → Act → Prop, Kp v nxt → if Region.wanted o (yielded ops a.tmps) then valUpon (fun u => Kp u (a.put o.dst u)) w' ((execOp a.eval o).run P w') else Kp undef (a.put o.dst undef)) ∧ wpSched P ops Q S g r nxt w) :
    wpSched P ops Q S g (.st i :: r) a w := by
  obtain ⟨v, nxt, h, hK⟩ := h
  obtain ⟨h1, rfl⟩ := yields_mk h ⟨w, hw⟩
  exact ⟨o, v, ho, h1, hK⟩
theorem sched_pure {i : Nat} {r : List St} {o : Oper} {a : Act} {w : World} (ho : ops[i]? = some o)
    (h : ∃ v nxt, (∀ w' : World, True → ∀ Kp : Value → Act → Prop, Kp v nxt → if Region.wanted o (yielded ops a.tmps) then valUpon (fun u => Kp u (a.put o.dst u)) w' ((execOp a.eval o).run P w') else Kp undef (a.put o.dst undef)) ∧ wpSched P ops Q S g r nxt w) :
    wpSched P ops Q S g (.pure i :: r) a w := by
  obtain ⟨v, nxt, h, hK⟩ := h
  obtain ⟨h1, rfl⟩ := yields_mk (S := fun _ => True) h ⟨w, trivial⟩
  exact ⟨o, v, ho, h1, hK⟩
theorem sched_ac {i : Nat} {r : List St} {o : Oper} {a : Act} {w : World} (ho : ops[i]? = some o)
    (h : wpList P ops (KeepPost Q (g i) S (wpSched P ops Q S g r)) [o] a w) : wpSched P ops Q S g (.ac i :: r) a w := ⟨o, ho, h⟩
end
end Go.Proofs.Ytjolhaefnloaoaa
