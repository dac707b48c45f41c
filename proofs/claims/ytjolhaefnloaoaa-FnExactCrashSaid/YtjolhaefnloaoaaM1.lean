/- Plain mathematics: numbers in bytes, the checksum, pages. -/
import Derived.Test.YtjolhaefnloaoaaL2
import Derived.Laws.BitsLemmas
namespace Go.Proofs.Ytjolhaefnloaoaa
open Go.RowKit

theorem bits_xor_i64 (a b : Nat) (ha : a < 2 ^ 63) (hb : b < 2 ^ 63) : bits .xor .i64 (a : Int) (b : Int) = ((a ^^^ b : Nat) : Int) := by
  have hx : a ^^^ b < 2 ^ 63 := Nat.xor_lt_two_pow ha hb
  have h1 : (BitVec.ofInt 64 (a : Int)).toNat = a := by
    rw [BitVec.ofInt_natCast, BitVec.toNat_ofNat]; exact Nat.mod_eq_of_lt (by omega)
  have h2 : (BitVec.ofInt 64 (b : Int)).toNat = b := by
    rw [BitVec.ofInt_natCast, BitVec.toNat_ofNat]; exact Nat.mod_eq_of_lt (by omega)
  show IntKind.i64.wrap ((BitVec.ofInt 64 (a : Int) ^^^ BitVec.ofInt 64 (b : Int)).toNat : Int) = _
  rw [BitVec.toNat_xor, h1, h2, IntKind.wrap_i64]
  omega
theorem bits_or_i64 (a b : Nat) (ha : a < 2 ^ 63) (hb : b < 2 ^ 63) : bits .or .i64 (a : Int) (b : Int) = ((a ||| b : Nat) : Int) := by
  have hx : a ||| b < 2 ^ 63 := Nat.or_lt_two_pow ha hb
  have h1 : (BitVec.ofInt 64 (a : Int)).toNat = a := by
    rw [BitVec.ofInt_natCast, BitVec.toNat_ofNat]; exact Nat.mod_eq_of_lt (by omega)
  have h2 : (BitVec.ofInt 64 (b : Int)).toNat = b := by
    rw [BitVec.ofInt_natCast, BitVec.toNat_ofNat]; exact Nat.mod_eq_of_lt (by omega)
  show IntKind.i64.wrap ((BitVec.ofInt 64 (a : Int) ||| BitVec.ofInt 64 (b : Int)).toNat : Int) = _
  rw [BitVec.toNat_or, h1, h2, IntKind.wrap_i64]
  omega
theorem bits_xor_u32 (a b : Nat) (ha : a < 2 ^ 32) (hb : b < 2 ^ 32) : bits .xor .u32 (a : Int) (b : Int) = ((a ^^^ b : Nat) : Int) := by
  have hx : a ^^^ b < 2 ^ 32 := Nat.xor_lt_two_pow ha hb
  have h1 : (BitVec.ofInt 32 (a : Int)).toNat = a := by
    rw [BitVec.ofInt_natCast, BitVec.toNat_ofNat]; exact Nat.mod_eq_of_lt (by omega)
  have h2 : (BitVec.ofInt 32 (b : Int)).toNat = b := by
    rw [BitVec.ofInt_natCast, BitVec.toNat_ofNat]; exact Nat.mod_eq_of_lt (by omega)
  show IntKind.u32.wrap ((BitVec.ofInt 32 (a : Int) ^^^ BitVec.ofInt 32 (b : Int)).toNat : Int) = _
  rw [BitVec.toNat_xor, h1, h2, IntKind.wrap_u32]
  omega
theorem bits_and1_u32 (a : Nat) (ha : a < 2 ^ 32) : bits .and .u32 (a : Int) 1 = ((a % 2 : Nat) : Int) := by
  have h := (bits_nat .u32 32 (by decide) (fun n h0 h1 => by rw [IntKind.wrap_u32]; omega) a 1 ha (by decide)).1
  rw [Nat.and_one_is_mod] at h
  exact h

def numB (v : Nat) : Nat → List UInt8
  | 0 => []
  | n + 1 => UInt8.ofNat (v % 256) :: numB (v / 256) n
def lowB : List UInt8 → Nat
  | [] => 0
  | b :: bs => b.toNat + 256 * lowB bs
theorem numB_length : ∀ (n v : Nat), (numB v n).length = n
  | 0, _ => rfl
  | n + 1, v => by rw [numB, List.length_cons, numB_length n]
theorem numB_snoc : ∀ (n v : Nat), numB v (n + 1) = numB v n ++ [UInt8.ofNat (v / 256 ^ n % 256)]
  | 0, v => by simp [numB]
  | n + 1, v => by
    rw [numB, numB_snoc n (v / 256), numB, List.cons_append, Nat.div_div_eq_div_mul, Nat.pow_succ, Nat.mul_comm 256]
theorem lowB_lt : ∀ (l : List UInt8), lowB l < 256 ^ l.length
  | [] => by simp [lowB]
  | b :: bs => by
    have := lowB_lt bs
    have hb := b.toNat_lt
    simp only [lowB, List.length_cons, Nat.pow_succ]
    omega
def crcStep (h : Nat) : Nat := if h % 2 = 1 then (h / 2) ^^^ 3988292384 else h / 2
def crcIter : Nat → Nat → Nat
  | 0, h => h
  | n + 1, h => crcStep (crcIter n h)
def crcByte (h : Nat) (b : UInt8) : Nat := crcIter 8 (h ^^^ b.toNat)
def crcFold (h : Nat) (l : List UInt8) : Nat := l.foldl crcByte h
def crcB (l : List UInt8) : Nat := crcFold 4294967295 l ^^^ 4294967295
theorem crcStep_lt {h : Nat} (hh : h < 2 ^ 32) : crcStep h < 2 ^ 32 := by
  unfold crcStep
  split
  · exact Nat.xor_lt_two_pow (by omega) (by omega)
  · omega
theorem crcIter_lt {h : Nat} (hh : h < 2 ^ 32) : ∀ n, crcIter n h < 2 ^ 32
  | 0 => hh
  | n + 1 => crcStep_lt (crcIter_lt hh n)
theorem crcByte_lt {h : Nat} (hh : h < 2 ^ 32) (b : UInt8) : crcByte h b < 2 ^ 32 := crcIter_lt (Nat.xor_lt_two_pow hh (by have := b.toNat_lt; omega)) 8
theorem crcFold_lt : ∀ (l : List UInt8) {h : Nat}, h < 2 ^ 32 → crcFold h l < 2 ^ 32
  | [], _, hh => hh
  | b :: l, _, hh => crcFold_lt l (crcByte_lt hh b)
theorem crcB_lt (l : List UInt8) : crcB l < 2 ^ 32 := Nat.xor_lt_two_pow (crcFold_lt l (by decide)) (by decide)
def crcInit : Nat := 4294967295
theorem crcInit_cast : ((crcInit : Nat) : Int) = 4294967295 := rfl
theorem crcInit_lt : crcInit < 4294967296 := by unfold crcInit; omega
theorem crcFold_small (l : List UInt8) {h : Nat} (hh : h < 4294967296) : crcFold h l < 4294967296 := crcFold_lt l hh
theorem crcB_small (l : List UInt8) : crcB l < 4294967296 := crcB_lt l
theorem crcIter_small {h : Nat} (hh : h < 4294967296) (n : Nat) : crcIter n h < 4294967296 := crcIter_lt hh n
theorem xor_small {a b : Nat} (ha : a < 4294967296) (hb : b < 4294967296) : a ^^^ b < 4294967296 := Nat.xor_lt_two_pow (n := 32) ha hb
theorem xor_i64 (a b : Nat) (ha : a < 4294967296) (hb : b < 4294967296) : bits .xor .i64 (a : Int) (b : Int) = ((a ^^^ b : Nat) : Int) := bits_xor_i64 a b (by omega) (by omega)
theorem wrap_byte {b : Nat} (hb : b < 256) : wrap64 (b : Int) = b := by unfold wrap64; omega
theorem crcStep_odd {h : Nat} (ho : (h : Int) % 2 = 1) (hh : h < 4294967296) : bits .xor .i64 ((h : Int) / 2) 3988292384 = ((crcStep h : Nat) : Int) := by
  have h1 : h % 2 = 1 := by omega
  have := xor_i64 (h / 2) 3988292384 (by omega) (by omega)
  unfold crcStep
  rw [if_pos h1, ← this, show ((h / 2 : Nat) : Int) = (h : Int) / 2 by omega]
  rfl
theorem crcStep_even {h : Nat} (ho : ¬ (h : Int) % 2 = 1) : ((h : Int) / 2) = ((crcStep h : Nat) : Int) := by
  have h1 : ¬ h % 2 = 1 := by omega
  unfold crcStep
  rw [if_neg h1]
  omega
theorem byte_small {b : Nat} (h : b < 256) : b < 4294967296 := by omega
theorem crcLast {h : Nat} (hh : h < 4294967296) : bits .xor .i64 (h : Int) 4294967295 = ((h ^^^ 4294967295 : Nat) : Int) := by
  have := xor_i64 h 4294967295 hh (by omega)
  rw [← this]
  rfl
theorem crcFold_snoc (h : Nat) (l : List UInt8) (b : UInt8) : crcFold h (l ++ [b]) = crcByte (crcFold h l) b := by simp [crcFold]
theorem lowB_drop (l : List UInt8) (j : Nat) (h : j < l.length) : lowB (l.drop j) = l[j].toNat + 256 * lowB (l.drop (j + 1)) := by
  rw [List.drop_eq_getElem_cons h, lowB]
theorem lowB_small (l : List UInt8) (h : l.length ≤ 7) : lowB l < 72057594037927936 := by
  have h1 := lowB_lt l
  have h2 : 256 ^ l.length ≤ 256 ^ 7 := Nat.pow_le_pow_right (by decide) h
  have h3 : (256 : Nat) ^ 7 = 72057594037927936 := by decide
  omega
theorem lowB_small6 (l : List UInt8) (h : l.length ≤ 6) : lowB l < 281474976710656 := by
  have h1 := lowB_lt l
  have h2 : 256 ^ l.length ≤ 256 ^ 6 := Nat.pow_le_pow_right (by decide) h
  have h3 : (256 : Nat) ^ 6 = 281474976710656 := by decide
  omega
theorem byte_mod (v : Nat) : (((UInt8.ofNat (v % 256)).toNat : Nat) : Int) = (v : Int) % 256 := by
  simp only [UInt8.toNat_ofNat']
  omega
theorem take_snoc {α : Type} (l : List α) (j : Nat) (h : j < l.length) : l.take (j + 1) = l.take j ++ [l[j]] := List.take_succ_eq_append_getElem h
end Go.Proofs.Ytjolhaefnloaoaa
