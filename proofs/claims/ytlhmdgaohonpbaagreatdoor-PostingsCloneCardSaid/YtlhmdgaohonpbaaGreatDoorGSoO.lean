import Derived.Test.YtlhmdgaohonpbaaGreatDoorGSoN
import Derived.Test.YtlhmdgaohonpbaaGreatDoorGSoM
import Derived.Test.YtlhmdgaohonpbaaGreatDoorGSoH
import Derived.Sort.AssemblyPlain
set_option linter.unusedSimpArgs false
set_option linter.unusedVariables false
set_option linter.unusedSectionVars false
namespace Go.Proofs.YtlhmdgaohonpbaaGreatDoor.Srt
open Go.Sort
theorem callees13 : Callees13 where
 ins := So.insertionSort_int
 brk := So.breakPatterns_int
 piv := So.choosePivot_str
 par := So.partialInsertionSort_int
 peq := So.partitionEqualOrdered_int
 prt := So.partitionOrdered_int
theorem plain13 : Plain13 where
 swo := swo_ltInt
 ins := insertionSort_holds
 par := partialInsertionSort_holds
 prt := partition_holds _
 peq := partitionEqual_holds _
 pdq := pdq_sorts _
theorem pdqWalkInt : pdqWalk_int := fun blk off cap a b limit d w hH hb hab hbd hsz hl hB =>
 So.pdqsort_int callees13 plain13 (b - a + 1) blk off cap a b limit d w (by omega) hH hb hab hbd hsz hl hB
theorem sort_int_eq (zs : List Int) : Sort.sort ltInt zs.toArray = (zs.mergeSort fun x y => decide (x ≤ y)).toArray := by
 rw [← sortInt zs]
theorem So.slices_Sort_int (blk off cap : Nat) (zs : List Int) (w : World) (hH : Holds (Value.int .u64) w blk off zs.toArray) (hblk : blk < w.heap.size) (hsz : zs.length < 4611686018427387904) :
  Calls Tryz.prog 51 #[.slice (some ⟨blk, off, none⟩) zs.length cap] w fun e w' =>
   e = .returned (.tuple #[]) ∧ ∃ n os, w' = grow (putRow (Value.int .u64) (Sort.ahead w n) blk off (zs.mergeSort fun x y => decide (x ≤ y)).toArray) os := by
 have h := So.Sort_int pdqWalkInt blk off cap zs.toArray w hH hblk (by simpa using hsz)
 rw [sort_int_eq] at h
 simpa using h
end Go.Proofs.YtlhmdgaohonpbaaGreatDoor.Srt
