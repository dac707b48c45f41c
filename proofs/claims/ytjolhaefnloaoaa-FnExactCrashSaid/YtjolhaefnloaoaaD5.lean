/- Sorting a row of integers. -/
import Derived.Test.YtjolhaefnloaoaaD4
import Derived.Test.YtjolhaefnloaoaaSh
namespace Go.Proofs.Ytjolhaefnloaoaa
open Go.RowKit Sh

theorem sort_calls (v : Value) (xs : List Int) (F : List Nat) (w : World) (h : SlOwn (Sh.int .i64) 3 F w v xs) (hx : xs.length ≤ 1000000000) :
    Calls Try.prog 94 #[v] w fun e w' => e = .returned (.tuple #[]) ∧ SlOwn (Sh.int .i64) 3 F w' v (xs.mergeSort fun x y => decide (x ≤ y)) ∧ Chg F w w' := by
  rcases Nat.eq_zero_or_pos xs.length with h0 | h0
  · obtain rfl := List.eq_nil_of_length_eq_zero h0
    obtain ⟨a, c, rfl, _, _⟩ := h.rd.form
    refine (Try.slices_Sort_int_none a c w).mono ?_
    rintro e w' ⟨rfl, rfl⟩
    exact ⟨rfl, by simpa using h, Chg.refl _ _⟩
  · obtain ⟨b, cap, cells, rfl, rfl, hh, h1, h2, h3, hc⟩ := SlOwn.scalar_open h h0
    refine (Try.slices_Sort_int b 0 cap xs w (fun j hj => ?_) (lt_block hh) (by omega)).mono ?_
    · have hj' : j < xs.length := by simpa using hj
      refine ⟨?_, free_block hh _⟩
      rw [cell_block hh, Nat.zero_add, hc j hj']
      simp [hj']
    · rintro e w' ⟨rfl, n, os, rfl⟩
      have hbl := lt_block hh
      have hlen : (xs.mergeSort fun x y => decide (x ≤ y)).length = xs.length := List.length_mergeSort _
      have hblk : (Sort.grow (Sort.putRow (Value.int .i64) (Sort.ahead w n) b 0 (xs.mergeSort fun x y => decide (x ≤ y)).toArray) os).heap[b]? = some (.cells (Sort.putCells (Value.int .i64) 0 (xs.mergeSort fun x y => decide (x ≤ y)).toArray cells) 3 (0, 0)) := by
        simp only [Sort.grow, Sort.putRow, Sort.mapBlock, Sort.ahead]
        rw [Array.getElem?_append_left (by simpa using hbl)]
        simp [Array.getElem?_modify, hh, Sort.onCells]
      refine ⟨rfl, ?_, ⟨rfl, rfl, rfl, by simp [Sort.grow, Sort.putRow, Sort.mapBlock, Sort.ahead], fun k hk hkF => ?_⟩⟩
      · have := SlOwn.scalar_mk (enc := Value.int .i64) (h1 := fun _ => rfl) (xs := xs.mergeSort fun x y => decide (x ≤ y)) hblk (by omega) h2 (by simp [Sort.putCells, h3]) (fun j hj => by
          have hjc : j < cells.size := by omega
          simp only [Sort.putCells, Array.getElem?_mapIdx, Array.getElem?_eq_getElem hjc, Option.map_some]
          rw [if_pos ⟨by omega, by simp only [List.size_toArray]; omega⟩]
          simp [List.getElem?_eq_getElem hj])
        rwa [hlen] at this
      · have hne : b ≠ k := by simp at hkF; omega
        simp only [Sort.grow, Sort.putRow, Sort.mapBlock, Sort.ahead]
        rw [Array.getElem?_append_left (by simpa using hk)]
        simp [Array.getElem?_modify, hne]
end Go.Proofs.Ytjolhaefnloaoaa
