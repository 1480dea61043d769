/-
  A row that is ours, sorted: over whatever program.
-/
import Derived.Shelf.SlSortFuncK.WholeK
import Derived.Shelf.GgSortFunc.Tiny
import Derived.Test.YtdlalkhnppahfaaXView
namespace Go.X
open Go

section
variable {w0 w : World} {r : List A} {T sz n c b : Nat} {xs : List Value}

theorem Has.holds (H : Has w0 w (ow T sz (some ⟨b, 0, none⟩) n c xs :: r)) : Sort.Holds id w b 0 xs.toArray ∧ b < w.heap.size := by
  obtain ⟨hb, D, ⟨D1, D2, hu, hx, ⟨hxl, ha⟩, hr⟩, hge⟩ := H
  rcases ha with ⟨h, _⟩ | ⟨b', cur, mk, hbb, hD, hcur, hnc, hcm, hsz, htk, hmk⟩
  · cases h
  · obtain rfl : b = b' := by simpa using hbb
    have hlen : xs.length ≤ cur.size := by
      rw [← htk, List.length_take]; simp; omega
    refine ⟨fun j hj => ⟨?_, ?_⟩, (Array.getElem?_eq_some_iff.1 hcur).1⟩
    · have hj' : j < xs.length := by simpa using hj
      rw [cell_of_row w b _ cur T mk hcur, Nat.zero_add]
      have h1 : (cur.toList.take (n * sz))[j]? = some (xs[j]) := by rw [htk, List.getElem?_eq_getElem hj']
      rw [List.getElem?_take] at h1
      split at h1
      · rw [← Array.getElem?_toList, h1]
        simp [hj']
      · cases h1
    · have hj' : j < xs.length := by simpa using hj
      unfold World.frozen?
      simp only [hcur]
      rcases hmk with h | h
      · simp; omega
      · simp; omega

theorem Has.grow (H : Has w0 w r) (os : Array Obj) : Has w0 (Sort.grow w os) r := by
  obtain ⟨hb, D, hr, hge⟩ := H
  have hin := hr.inh
  refine ⟨⟨hb.os, hb.tape, hb.output, by rw [Sort.size_grow]; have := hb.size; omega, fun k hk => ?_⟩, D, hr.loc fun k hk => Sort.heap_grow_old w os (hin k hk), hge⟩
  rw [Sort.heap_grow_old w os (Nat.lt_of_lt_of_le hk hb.size)]; exact hb.block k hk

theorem Has.ahead (H : Has w0 w r) (m : Nat) : Has w0 (Sort.ahead w m) r := H.same rfl rfl rfl rfl

/-- The row laid anew. -/
theorem Has.putRow (H : Has w0 w (ow T sz (some ⟨b, 0, none⟩) n c xs :: r)) {F : Array Value} (hF : F.size = xs.length) : Has w0 (Sort.putRow id w b 0 F) (ow T sz (some ⟨b, 0, none⟩) n c F.toList :: r) := by
  obtain ⟨hb, D, ⟨D1, D2, hu, hx, ⟨hxl, ha⟩, hr⟩, hge⟩ := H
  rcases ha with ⟨h, _⟩ | ⟨b', cur, mk, hbb, hD, hcur, hnc, hcm, hsz, htk, hmk⟩
  · cases h
  · obtain rfl : b = b' := by simpa using hbb
    have hnsz := Nat.mul_le_mul_right sz hnc
    have H2 : Has w0 w (blk b (.cells cur T mk) :: r) := ⟨hb, D, ⟨D1, D2, hu, hx, ⟨hD, hcur⟩, hr⟩, hge⟩
    have hat : (Sort.putRow id w b 0 F).heap[b]? = some (.cells (Sort.putCells id 0 F cur) T mk) := by
      unfold Sort.putRow Sort.mapBlock
      simp only [Array.getElem?_modify, if_true, hcur, Option.map_some, Sort.onCells]
    have H3 := H2.turn (w' := Sort.putRow id w b 0 F) rfl rfl rfl (by simp [Sort.putRow, Sort.mapBlock]) hat (fun k hk => by
      unfold Sort.putRow Sort.mapBlock
      simp only [Array.getElem?_modify]
      rw [if_neg (fun e => hk e.symm)])
    refine H3.imp fun D hd => ⟨by simp [hF, hxl], .inr ⟨b, _, mk, rfl, hd.1, hd.2, hnc, hcm, by simpa [Sort.putCells] using hsz, ?_, by simpa [Sort.putCells] using hmk⟩⟩
    apply List.ext_getElem?
    intro j
    rw [List.getElem?_take]
    split
    · rename_i hj
      have hjF : j < F.size := by omega
      have hjc : j < cur.size := by omega
      rw [Array.getElem?_toList]
      simp only [Sort.putCells, Array.getElem?_mapIdx, Array.getElem?_eq_getElem hjc, Option.map_some, Nat.zero_le, Nat.zero_add, hjF, Nat.sub_zero, id]
      simp [hjF]
    · rename_i hj
      rw [List.getElem?_eq_none]
      simp; omega

end
end Go.X
