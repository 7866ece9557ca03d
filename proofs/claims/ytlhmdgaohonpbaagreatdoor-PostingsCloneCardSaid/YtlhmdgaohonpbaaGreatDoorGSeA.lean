import Derived.Test.YtlhmdgaohonpbaaGreatDoorGRm
import Derived.Test.YtlhmdgaohonpbaaGreatDoorGIx
set_option linter.unusedSimpArgs false
set_option linter.unusedVariables false
set_option linter.unusedSectionVars false
namespace Go.Proofs.YtlhmdgaohonpbaaGreatDoor
open Go.RowKit Go.Proofs.YtlhmdgaohonpbaaGreatDoor.MapRaw Go.ChangeMaps
def aimB (m : Mt) : Bool := m.kind == 1 && !m.v.toList.isEmpty
def aimF (l : List Mt) : Option (ByteArray × ByteArray) := (l.find? aimB).map fun m => (m.n, m.v)
theorem aim_drop (l : List Mt) (k : Nat) (hk : k < l.length) : aimF (l.drop k) = if aimB l[k] = true then some (l[k].n, l[k].v) else aimF (l.drop (k + 1)) := by
 rw [List.drop_eq_getElem_cons hk]
 unfold aimF
 rw [List.find?_cons]
 cases (aimB l[k]) <;> rfl
theorem aim_end {l : List Mt} {k : Nat} (hk : ¬ k < l.length) : aimF (l.drop k) = none := by
 rw [List.drop_of_length_le (by omega)]; rfl
def NarrowPost (w : World) (inner : List ((ByteArray × ByteArray) × Nat)) (r : Option (ByteArray × ByteArray)) (e : Ending) (w' : World) : Prop :=
 e = .returned (.tuple #[.map (r.bind (mget inner)), .bool r.isSome]) ∧ Below w.heap.size w w'
set_option maxRecDepth 100000 in
set_option maxHeartbeats 1000000 in
theorem ix_narrow {D : Nat → Prop} {X : List Nat} {xb : Nat} {I : Ix} {ab rb hb : Nat} {inner : List ((ByteArray × ByteArray) × Nat)} (v : Value) (l : List Mt) (w : World) (h : IxAt w X xb I ab rb hb inner) (hv : Slc 3 Mt.enc w D v l) :
  Calls Tryz.prog 50 #[.pointer (some ⟨xb, 0, none⟩), v] w (NarrowPost w inner (aimF l)) := by
 have c3 := blk_cell h.cells 3
 simp at c3
 have HH := Lib.hid h.has
 have HX := Lib.hid c3
 obtain ⟨A, c, rfl, p1, p2, -, -, p5⟩ := hv
 have HRd := Lib.hid fun (W : World) (hW : Below w.heap.size w W) => Rd.below p5 hW
 have hm9 : l.length ≤ 9223372036854775807 := by simp only [maxLen] at p2; omega
 have HV0 : Hid (aimF (l.drop 0) = aimF l) := Lib.hid (by rw [List.drop_zero])
 generalize aimF l = res at *
 obtain ⟨m, hm⟩ : ∃ m, m = l.length := ⟨_, rfl⟩
 have Hm := Lib.hid hm
 rw [← hm] at hm9 ⊢
 clear p1 p2 p5 hm h c3
 go_enter Tryz.func50, Tryz.ntmps50
 go_wp2_with fail
 go_loopw [10] (fun i wr => ∃ k : Nat, k ≤ m ∧ i = .int .i64 k ∧ aimF (l.drop k) = res ∧ Below w.heap.size w wr) (fun i _ => m - (intOf i).toNat)
 case atStart => exact ⟨0, Nat.zero_le _, rfl, HV0.out, Below.refl _ _⟩
 case round =>
  obtain ⟨k, hk, rfl, hE, hB⟩ := hrel
  have HBr := Lib.hid hB
  by_cases hlt : k < m
  ·have hkl : k < l.length := by rw [← Hm.out]; exact hlt
   obtain ⟨b, off, e1, hzc⟩ := (HRd.out wr hB) k l[k] (List.getElem?_eq_getElem hkl)
   cases e1
   have z0 := hzc 0 _ rfl
   have z1 := hzc 1 _ rfl
   have z2 := hzc 2 _ rfl
   simp only [Nat.add_zero] at z0 z1 z2
   rw [aim_drop l k hkl] at hE
   generalize l[k] = x at *
   obtain ⟨kind, mn, mv⟩ := x
   simp only at z0 z1 z2 hE
   have HBw := Lib.hid (bthen hB (balloc (Below.refl wr.heap.size wr) (.cells #[.int .i64 kind, .string mn, .string mv] 68)))
   have HA : Hid (aimB ⟨kind, mn, mv⟩ = (kind == 1 && !mv.toList.isEmpty)) := Lib.hid rfl
   generalize aimB ⟨kind, mn, mv⟩ = ba at *
   cases h1 : (kind == 1) with
   | false =>
    have hE' : aimF (l.drop (k + 1)) = res := by rw [← hE, HA.out, h1]; rfl
    have HE := Lib.hid hE'
    clear hE hE' hB hzc
    go_wp2_with fail
    go_roundw
    case rel => exact ⟨k + 1, by omega, by go_num, HE.out, HBw.out⟩
    case measure => simp [intOf] <;> omega
   | true =>
    cases h2 : mv.toList.isEmpty with
    | true =>
     have hE' : aimF (l.drop (k + 1)) = res := by rw [← hE, HA.out, h1, h2]; rfl
     have HE := Lib.hid hE'
     clear hE hE' hB hzc
     go_wp2_with fail
     go_roundw
     case rel => exact ⟨k + 1, by omega, by go_num, HE.out, HBw.out⟩
     case measure => simp [intOf] <;> omega
    | false =>
     have hE' : some (mn, mv) = res := by rw [← hE, HA.out, h1, h2]; rfl
     have HE := Lib.hid hE'
     obtain ⟨es, cc, ho, _, hlo⟩ := has_look HH.out (mn, mv)
     have HHb := Lib.hid (blk_below ho hB)
     have HXr := Lib.hid (later hB HX.out)
     clear hE hE' hB hzc ho
     go_upto_region 5 with fail
     have q0 : (wr.alloc (.cells #[.int .i64 kind, .string mn, .string mv] 68)).drew.cell? ⟨wr.heap.size, 1, none⟩ = some (.string mn) := by simp
     have q1 : (wr.alloc (.cells #[.int .i64 kind, .string mn, .string mv] 68)).drew.cell? ⟨wr.heap.size, 2, none⟩ = some (.string mv) := by simp
     have q3 : (wr.alloc (.cells #[.int .i64 kind, .string mn, .string mv] 68)).drew.cell? ⟨xb, 3, none⟩ = some (.map (some hb)) := later (bdrew (balloc (Below.refl _ _) _)) HXr.out
     have hlk := hlo (wr.alloc (.cells #[.int .i64 kind, .string mn, .string mv] 68)).drew (blk_below HHb.out (bdrew (balloc (Below.refl _ _) _)))
     clear hlo
     go_region_held3 (fun w' => w'.cell? ⟨wr.heap.size, 1, none⟩ = some (.string mn) ∧ w'.cell? ⟨wr.heap.size, 2, none⟩ = some (.string mv) ∧ w'.cell? ⟨xb, 3, none⟩ = some (.map (some hb))) (exact ⟨q0, q1, q3⟩) (fail)
     go_wp2_with fail
     go_ret2
     exact ⟨by rw [← HE.out]; rfl, bdrew HBw.out⟩
  ·have hkm := aim_end (l := l) (k := k) (by rw [← Hm.out]; exact hlt)
   rw [hkm] at hE
   have HE := Lib.hid hE
   clear hE hB hkm
   go_wp2_with fail
   go_ret2
   exact ⟨by rw [← HE.out]; rfl, HBr.out⟩
end Go.Proofs.YtlhmdgaohonpbaaGreatDoor
