/- Plain mathematics: disks that are valid, what sectors hold, pages. -/
import Derived.Test.YtjolhaefnloaoaaM1
namespace Go.Proofs.Ytjolhaefnloaoaa
open Go.RowKit

def DiskOkP (D : DiskD) : Prop := (1 ≤ D.safe.length ∧ D.safe.length ≤ 4096 ∧ D.pend.length ≤ 5000) ∧ (∀ s ∈ D.safe, s.length = 64) ∧ (∀ p ∈ D.pend, 0 ≤ p.pos ∧ p.pos < D.safe.length ∧ p.data.length = 64)
instance (D : DiskD) : Decidable (DiskOkP D) := by unfold DiskOkP; infer_instance
theorem not_all_get {α : Type} {l : List α} {P : α → Prop} {j : Nat} (h : j < l.length) (hn : ¬ P l[j]) : ¬ ∀ x ∈ l, P x := fun hA => hn (hA _ (List.getElem_mem h))
theorem all_of_take {α : Type} {l : List α} {P : α → Prop} {j : Nat} (hj : l.length ≤ j) (h : ∀ x ∈ l.take j, P x) : ∀ x ∈ l, P x := by rwa [List.take_of_length_le hj] at h
theorem all_take_succ {α : Type} {l : List α} {P : α → Prop} {j : Nat} (hj : j < l.length) (h : ∀ x ∈ l.take j, P x) (hx : P l[j]) : ∀ x ∈ l.take (j + 1), P x := by
  rw [take_snoc l j hj]
  intro x hm
  rcases List.mem_append.1 hm with hm | hm
  · exact h x hm
  · rw [List.mem_singleton.1 hm]; exact hx
/-- A page's bytes behind its checksum. -/
def restP (id kind : Nat) (body : List UInt8) : List UInt8 := numB id 4 ++ [UInt8.ofNat kind, 0] ++ numB body.length 2 ++ [0, 0, 0, 0] ++ body
def padP (l : List UInt8) : List UInt8 := l ++ List.replicate (252 - l.length) 0
def encP (id kind : Nat) (body : List UInt8) : List UInt8 := numB (crcB (padP (restP id kind body))) 4 ++ padP (restP id kind body)
theorem restP_length (id kind : Nat) (body : List UInt8) : (restP id kind body).length = 12 + body.length := by
  simp [restP, numB_length]; omega
theorem padP_length {l : List UInt8} (h : l.length ≤ 252) : (padP l).length = 252 := by simp [padP]; omega
theorem encP_length (id kind : Nat) {body : List UInt8} (h : body.length ≤ 240) : (encP id kind body).length = 256 := by
  rw [encP, List.length_append, numB_length, padP_length (by rw [restP_length]; omega)]
/-- What a page's bytes say. -/
def bodyOf (b : List UInt8) (n : Nat) : List UInt8 := (b.take (16 + n)).drop 16
def sizeOf_ (b : List UInt8) : Nat := lowB ((b.take 12).drop 10)
def decOk (id : Int) (b : List UInt8) : Prop := b.length = 256 ∧ sizeOf_ b ≤ 240 ∧ (0 ≤ id ∧ id ≤ 1023) ∧ (1 ≤ (b.getD 8 0).toNat ∧ (b.getD 8 0).toNat ≤ 4) ∧ encP id.toNat (b.getD 8 0).toNat (bodyOf b (sizeOf_ b)) = b
instance (id : Int) (b : List UInt8) : Decidable (decOk id b) := by unfold decOk; infer_instance
def decP (id : Int) (b : List UInt8) : Option (Nat × List UInt8) := if decOk id b then some ((b.getD 8 0).toNat, bodyOf b (sizeOf_ b)) else none
def kindR (r : Option (Nat × List UInt8)) : Nat := (r.map Prod.fst).getD 0
def bodyR (r : Option (Nat × List UInt8)) : List UInt8 := (r.map Prod.snd).getD []
/-- What the sectors hold: the pending writes laid over what is safe. -/
def layAll (l : List (List UInt8)) (ps : List PendD) : List (List UInt8) := ps.foldl (fun l p => l.set p.pos.toNat p.data) l
def nowD (D : DiskD) : List (List UInt8) := layAll D.safe D.pend
theorem layAll_length : ∀ (ps : List PendD) (l : List (List UInt8)), (layAll l ps).length = l.length
  | [], _ => rfl
  | p :: ps, l => by simp only [layAll, List.foldl_cons]; have := layAll_length ps (l.set p.pos.toNat p.data); simpa [layAll] using this
theorem layAll_snoc (l : List (List UInt8)) (ps : List PendD) (p : PendD) : layAll l (ps ++ [p]) = (layAll l ps).set p.pos.toNat p.data := by simp [layAll]
end Go.Proofs.Ytjolhaefnloaoaa
