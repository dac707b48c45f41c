/- The data of the program: disks, writes; how they lie in memory. -/
import Derived.Test.YtjolhaefnloaoaaL1
namespace Go.Proofs.Ytjolhaefnloaoaa
open Go.RowKit
namespace Sh
section
variable {α : Type} {d : Sh α} {S : Nat → Prop} {w : World} {v : Value} {xs : List α} {e : TypeId} {F : List Nat}
/-- An element that is a slice. -/
theorem SlRd.cellS {e' : TypeId} {a : Option Addr} {n c : Nat} {xs : List (List α)} (h : SlRd (slice e' d) S w (.slice a n c) xs) (i : Nat) (hi : i < xs.length) :
    ∃ (b o : Nat) (u : Value), a = some ⟨b, o, none⟩ ∧ S b ∧ b < w.heap.size ∧ w.cell? ⟨b, o + i, none⟩ = some u ∧ SlRd d S w u xs[i] := by
  obtain ⟨b, o, cs, rfl, hb, hlt, ⟨u, rfl, hr⟩, hc⟩ := h.elem i hi
  have hq := hc 0 _ rfl
  simp only [slice, Nat.mul_one, Nat.add_zero] at hq
  exact ⟨b, o, u, rfl, hb, hlt, hq, hr⟩
end
end Sh
open Sh

structure PendD where
  pos : Int
  data : List UInt8
  deriving DecidableEq
structure DiskD where
  safe : List (List UInt8)
  pend : List PendD
  deriving DecidableEq

def bytesSh : Sh (List UInt8) := Sh.slice 5 Sh.byte
theorem bytesSh_sz : bytesSh.sz = 1 := rfl
def pendSh : Sh PendD := Sh.iso (Sh.pair (Sh.int .i64) bytesSh) (fun p => (p.pos, p.data))
theorem pendSh_sz : pendSh.sz = 2 := rfl

section
variable {S : Nat → Prop} {w : World} {v : Value} {F : List Nat}
theorem pend_cell {a : Option Addr} {n c : Nat} {xs : List PendD} (h : SlRd pendSh S w (.slice a n c) xs) (i : Nat) (hi : i < xs.length) :
    ∃ (b o : Nat) (u : Value), a = some ⟨b, o, none⟩ ∧ S b ∧ b < w.heap.size ∧ w.cell? ⟨b, o + i * 2, none⟩ = some (.int .i64 xs[i].pos) ∧ w.cell? ⟨b, o + i * 2 + 1, none⟩ = some u ∧ SlRd byte S w u xs[i].data := by
  obtain ⟨b, o, cs, rfl, hb, hlt, hr, hc⟩ := h.elem i hi
  obtain ⟨c0, c1, rfl, h0, u, rfl, h1⟩ := hr
  have h0' : c0 = [Value.int .i64 xs[i].pos] := h0
  subst h0'
  exact ⟨b, o, u, rfl, hb, hlt, hc 0 _ rfl, hc 1 _ rfl, h1⟩
end

/-- A disk as a value: its two slices. -/
def DiskRd (S : Nat → Prop) (w : World) (a b : Value) (D : DiskD) : Prop := SlRd bytesSh S w a D.safe ∧ SlRd pendSh S w b D.pend

def sumLen (xss : List (List UInt8)) : Nat := (xss.map List.length).sum
def szSS (xss : List (List UInt8)) : Nat := xss.length + sumLen xss
def szPS (ps : List PendD) : Nat := ps.length + sumLen (ps.map PendD.data)
def szD (D : DiskD) : Nat := szSS D.safe + szPS D.pend
def szr (left n : Int) : Int := if n ≤ left then left - n else -1
theorem szr_fits {left n : Int} (h : n ≤ left) : szr left n = left - n := by unfold szr; rw [if_pos h]
theorem szr_less {left n : Int} (h : left < n) : szr left n = -1 := by unfold szr; rw [if_neg (by omega)]
theorem ret_int {k : IntKind} {a b : Int} (h : a = b) : Ending.returned (.int k a) = .returned (.int k b) := by rw [h]
theorem ret_bool {a b : Bool} (h : a = b) : Ending.returned (.bool a) = .returned (.bool b) := by rw [h]
theorem sumLen_take_succ (xss : List (List UInt8)) (j : Nat) (h : j < xss.length) : sumLen (xss.take (j + 1)) = sumLen (xss.take j) + xss[j].length := by
  unfold sumLen
  rw [List.take_succ_eq_append_getElem h, List.map_append, List.sum_append]
  simp
theorem sumLen_take_le (xss : List (List UInt8)) (j : Nat) : sumLen (xss.take j) ≤ sumLen xss := by
  unfold sumLen
  conv => rhs; rw [← List.take_append_drop j xss, List.map_append, List.sum_append]
  omega
theorem sumLen_take_all (xss : List (List UInt8)) (j : Nat) (h : xss.length ≤ j) : sumLen (xss.take j) = sumLen xss := by rw [List.take_of_length_le h]
end Go.Proofs.Ytjolhaefnloaoaa
