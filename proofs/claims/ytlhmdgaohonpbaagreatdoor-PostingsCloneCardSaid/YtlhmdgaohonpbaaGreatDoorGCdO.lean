import Derived.Test.YtlhmdgaohonpbaaGreatDoorGCd
import Derived.Test.YtlhmdgaohonpbaaGreatDoorGDz
import Derived.Test.YtlhmdgaohonpbaaGreatDoorGRm
set_option linter.unusedSimpArgs false
set_option linter.unusedVariables false
set_option linter.unusedSectionVars false
namespace Go.Proofs.YtlhmdgaohonpbaaGreatDoor
open Go.RowKit Go.ChangeShapes Go.WideShapes Go.Deep
theorem three_ofO {α : Type} {l : List α} (h : l.length = 3) : ∃ a b c, l = [a, b, c] := by
 match l, h with
 | [a, b, c], _ => exact ⟨a, b, c, rfl⟩
theorem cells_op : Tryz.prog.cellsOf 54 = 3 := by kernel_rfl
theorem cells_bool : Tryz.prog.cellsOf 4 = 1 := by kernel_rfl
theorem op_shape : ∃ f0 f1 f2 : Field, Tryz.prog.underlying 54 = some (.struct #[f0, f1, f2]) ∧ (f0.offset = 0 ∧ f1.offset = 1 ∧ f2.offset = 2) ∧ f0.type = 4 ∧ f1.type = 34 ∧ f2.type = 29 :=
 ⟨_, _, _, Tryz.underlying54, ⟨rfl, rfl, rfl⟩, rfl, rfl, rfl⟩
section
variable {H : Type} {en : TypeId × Value → H} {w : World} {base : Nat}
theorem open_ops {fuel : Nat} {cs : List Value} {x : DataW H × List MemPlace} (h : DataW.trod en Tryz.prog w base (fun _ => true) true fuel 44 cs = some x) : ∃ v l, cs = [v] ∧ Slc 3 OpV.enc w (fun _ => True) v l ∧ OpOk w (fun _ => True) l := by
 refine slc_of_open (sz := 3) (enc := OpV.enc) (⟨false, 0, .nilIface, []⟩ : OpV) (fun x => rfl) (by decide) Tryz.underlying44 cells_op (fun x => SlL w (fun _ => True) x.lv x.lab) ?_ h
 intro n cs' y hy
 obtain ⟨f0, f1, f2, hs, ⟨o0, o1, o2⟩, t0, t1, t2⟩ := op_shape
 obtain ⟨xs, k, _, _, hlen, hxl, hf⟩ := DataW.trod_struct hs hy
 rw [cells_op] at hlen
 obtain ⟨v0, v1, v2, rfl⟩ := three_ofO hlen
 obtain ⟨y0, y1, y2, rfl⟩ := three_ofO hxl
 have g0 := hf 0 f0 rfl
 have g1 := hf 1 f1 rfl
 have g2 := hf 2 f2 rfl
 rw [o0, t0, cells_bool] at g0
 rw [o1, t1, cells_u64] at g1
 rw [o2, t2, cells_lbls] at g2
 simp at g0 g1 g2
 obtain ⟨b0, e0, _⟩ := DataW.trod_bool Tryz.underlying4 g0
 obtain ⟨n1, e1, _⟩ := DataW.trod_int Tryz.underlying34 g1
 obtain ⟨v, lab, e2, hv, hz⟩ := open_lbls g2
 simp at e0 e1 e2
 subst e0; subst e1; subst e2
 exact ⟨⟨b0, n1, v2, lab⟩, rfl, hv⟩
end
end Go.Proofs.YtlhmdgaohonpbaaGreatDoor

namespace Go.Proofs.YtlhmdgaohonpbaaGreatDoor
open Go.RowKit Go.ChangeShapes Go.WideShapes Go.Deep
theorem three_ofM {α : Type} {l : List α} (h : l.length = 3) : ∃ a b c, l = [a, b, c] := by
 match l, h with
 | [a, b, c], _ => exact ⟨a, b, c, rfl⟩
theorem cells_mt : Tryz.prog.cellsOf 68 = 3 := by kernel_rfl
theorem cells_intM : Tryz.prog.cellsOf 3 = 1 := by kernel_rfl
theorem mt_shape : ∃ f0 f1 f2 : Field, Tryz.prog.underlying 68 = some (.struct #[f0, f1, f2]) ∧ (f0.offset = 0 ∧ f1.offset = 1 ∧ f2.offset = 2) ∧ f0.type = 3 ∧ f1.type = 9 ∧ f2.type = 9 :=
 ⟨_, _, _, Tryz.underlying68, ⟨rfl, rfl, rfl⟩, rfl, rfl, rfl⟩
section
variable {H : Type} {en : TypeId × Value → H} {w : World} {base : Nat}
theorem open_m {fuel : Nat} {cs : List Value} {x : DataW H × List MemPlace} (hy : DataW.trod en Tryz.prog w base (fun _ => true) true fuel 68 cs = some x) : ∃ m : Mt, cs = m.enc ∧ SzM m := by
 obtain ⟨f0, f1, f2, hs, ⟨o0, o1, o2⟩, t0, t1, t2⟩ := mt_shape
 obtain ⟨xs, k, _, _, hlen, hxl, hf⟩ := DataW.trod_struct hs hy
 rw [cells_mt] at hlen
 obtain ⟨v0, v1, v2, rfl⟩ := three_ofM hlen
 obtain ⟨y0, y1, y2, rfl⟩ := three_ofM hxl
 have g0 := hf 0 f0 rfl
 have g1 := hf 1 f1 rfl
 have g2 := hf 2 f2 rfl
 rw [o0, t0, cells_intM] at g0
 rw [o1, t1, cells_str] at g1
 rw [o2, t2, cells_str] at g2
 simp at g0 g1 g2
 obtain ⟨n0, e0, _⟩ := DataW.trod_int Tryz.underlying3 g0
 obtain ⟨s1, e1, _, b1⟩ := DataW.trod_string Tryz.underlying9 g1
 obtain ⟨s2, e2, _, b2⟩ := DataW.trod_string Tryz.underlying9 g2
 simp at e0 e1 e2
 subst e0; subst e1; subst e2
 exact ⟨⟨n0, s1, s2⟩, rfl, b1, b2⟩
theorem open_ms {fuel : Nat} {cs : List Value} {x : DataW H × List MemPlace} (h : DataW.trod en Tryz.prog w base (fun _ => true) true fuel 23 cs = some x) : ∃ v l, cs = [v] ∧ Slc 3 Mt.enc w (fun _ => True) v l ∧ ∀ x ∈ l, SzM x := by
 refine slc_of_open (sz := 3) (enc := Mt.enc) (⟨0, ByteArray.empty, ByteArray.empty⟩ : Mt) (fun x => rfl) (by decide) Tryz.underlying23 cells_mt (fun x => SzM x) ?_ h
 intro n cs' y hy
 exact open_m hy
end
end Go.Proofs.YtlhmdgaohonpbaaGreatDoor
