/- Arguments of the laws, opened: bytes, disks. -/
import Derived.Test.YtjolhaefnloaoaaE5
import Derived.Test.YtjolhaefnloaoaaL10
import Derived.ProofKit
import Derived.OpenShut
import Derived.Lib.SmallJoins
namespace Go.Proofs.Ytjolhaefnloaoaa
open Go.ChangeShapes Go.WideShapes Go.ChangeAt Go.RowKit Sh
set_option linter.constructorNameAsVariable false

theorem opens_bytes : Opens Try.prog bytesSh 22 (fun _ => True) :=
  (opens_slice 5 Try.underlying22 (by kernel_rfl) (opens_byte Try.underlying5)).imp fun _ _ => trivial
theorem opens_pend : Opens Try.prog pendSh 143 (fun p => (Lit.int .i64 p.pos).wf = true) :=
  (opens_iso (fun p : PendD => (p.pos, p.data)) (fun x => ⟨x.1, x.2⟩) (fun _ => rfl)
    (opens_pair Try.underlying143 rfl rfl (by kernel_rfl) (by kernel_rfl) (by kernel_rfl) (opens_int Try.underlying3) opens_bytes)).imp fun _ h => h.1
theorem opens_safes : Opens Try.prog (Sh.slice 22 bytesSh) 23 (fun _ => True) :=
  (opens_slice 22 Try.underlying23 (by kernel_rfl) opens_bytes).imp fun _ _ => trivial
theorem opens_pends : Opens Try.prog (Sh.slice 121 pendSh) 41 PosOk :=
  opens_slice 121 Try.underlying41 (by kernel_rfl) opens_pend

theorem own : ownKnob Try.prog.godebug = none := by kernel_rfl
theorem laidOut : laidOutB Try.prog = true := by kernel_rfl

set_option maxRecDepth 100000 in
/-- A disk that came in. -/
theorem open_disk {W : World} {base : Nat} {H : Type} {enc : TypeId × Value → H} {v : Value} {d : DataW H} {p : List MemPlace} (hv : Value.okWide Try.prog W .any base 43 v) (h : DataW.Trod enc Try.prog W 0 (fun _ => true) true 43 v d p) :
    ∃ (v1 v2 : Value) (D : DiskD), v = .agg #[v1, v2] ∧ DiskIn W.heap.size W v1 v2 D ∧ PosOk D.pend := by
  obtain ⟨v1, v2, y0, y1, n, rfl, _, _, h0, h1⟩ := Go.Joins.open_agg2 Try.underlying43 (by kernel_rfl) (by kernel_rfl) hv h
  obtain ⟨s, ⟨u, hu, hs⟩, _⟩ := opens_safes _ _ _ _ _ _ h0
  obtain ⟨q, ⟨u', hu', hq⟩, hp⟩ := opens_pends _ _ _ _ _ _ h1
  cases hu; cases hu'
  exact ⟨v1, v2, ⟨s, q⟩, rfl, ⟨⟨hs, hq⟩, Nat.le_refl _⟩, hp⟩

set_option maxRecDepth 100000 in
theorem open_bytesA {W : World} {base : Nat} {H : Type} {enc : TypeId × Value → H} {v : Value} {d : DataW H} {p : List MemPlace} (hv : Value.okWide Try.prog W .any base 22 v) (h : DataW.Trod enc Try.prog W 0 (fun _ => true) true 22 v d p) :
    ∃ xs : List UInt8, SlIn byte W.heap.size W v xs := by
  obtain ⟨fuel, hf⟩ := h
  obtain ⟨a, len, cap, rfl⟩ := okWide_slice Try.underlying22 hv
  obtain ⟨xs, ⟨u, hu, hx⟩, _⟩ := opens_bytes _ _ _ _ _ _ hf
  have hu' : [Value.slice a len cap] = [u] := hu
  cases hu'
  exact ⟨xs, hx, Nat.le_refl _⟩
end Go.Proofs.Ytjolhaefnloaoaa
