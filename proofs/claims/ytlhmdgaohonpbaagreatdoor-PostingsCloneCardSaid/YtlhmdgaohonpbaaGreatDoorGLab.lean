import Derived.Test.YtlhmdgaohonpbaaGreatDoorGBase
import Derived.Laws.RangeString
import Derived.Shelf.Unicode.ValidAny
import Derived.Test.YtlhmdgaohonpbaaGreatDoorProg
import Derived.Deep.RegionHeld3
import Derived.Laws.Concat
set_option linter.unusedSimpArgs false
set_option linter.unusedVariables false
set_option linter.unusedSectionVars false
namespace Go.Proofs.YtlhmdgaohonpbaaGreatDoor
open Go.RowKit
def isF (c : Int) : Bool := decide (97 ≤ c) && decide (c ≤ 122) || decide (65 ≤ c) && decide (c ≤ 90) || decide (c = 95)
def isL (c : Int) : Bool := isF c || decide (48 ≤ c) && decide (c ≤ 57)
set_option maxHeartbeats 400000 in
theorem labels_letter (c : Int) (w : World) :
  Calls Tryz.prog 108 #[.int .i32 c] w fun e w' => e = .returned (.tuple #[.bool (isL c), .bool (isF c)]) ∧ w = w' := by
 go_enter Tryz.func108, Tryz.ntmps108
 go_wp2
 all_goals go_ret2
 all_goals exact ⟨ret_bb (Bool.eq_iff_iff.2 (by simp [isL, isF]; try omega)) (Bool.eq_iff_iff.2 (by simp [isF]; try omega)), rfl⟩
def restOk (s : ByteArray) (k : Nat) : Bool := (s.data.toList.drop k).all fun c => isL c.toNat
def firstF (s : ByteArray) : Bool := match s.data.toList with | c :: _ => isF c.toNat | [] => false
def namedF (s : ByteArray) : Bool := decide (0 < s.size) && decide (s.size ≤ 64) && restOk s 0 && firstF s
theorem namedF_eq (s : ByteArray) : namedF s = (decide (0 < s.size) && decide (s.size ≤ 64) && restOk s 0 && firstF s) := rfl
theorem restOk_step {s : ByteArray} {k : Nat} (h : k < s.size) : restOk s k = (isL (s[k]'h).toNat && restOk s (k + 1)) := by
 unfold restOk
 have h' : k < s.data.toList.length := by simpa using h
 rw [List.drop_eq_getElem_cons h', List.all_cons]
 rfl
theorem restOk_end {s : ByteArray} {k : Nat} (h : ¬ k < s.size) : restOk s k = true := by
  unfold restOk
  rw [List.drop_of_length_le (by have : s.data.toList.length = s.size := by rw [Array.length_toList]; rfl
                                 omega)]
  rfl
theorem get_at (s : ByteArray) (k : Nat) (h : k < s.size) : s.get! k = s[k]'h := by
 show s.get! k = _
 simp [ByteArray.get!, getElem!_pos, h]
 rfl
theorem decode_high (s : ByteArray) (k : Nat) (h : k < s.size) (ha : 128 ≤ (s[k]'h).toNat) : 128 ≤ (Utf8.decode s k).1 := by
 have e : s.get! (k + 0) = s[k]'h := get_at s k h
 unfold Utf8.decode
 simp only [e, Utf8.runeError]
 rw [if_neg (by omega)]
 (repeat' split) <;> simp_all <;> omega
theorem run_next_str {P : Program} (w : World) (s : ByteArray) (pos : Nat) (ty : TypeId) (h : pos < s.size) :
  (Instr.next (.pointer (some ⟨w.heap.size, 0, none⟩)) true ty).run P (w.iter s pos) =
   .ok (.tuple #[.bool true, .int .i64 pos, .int .i32 ((Utf8.decode s pos).1 : Nat)]) (w.iter s (pos + (Utf8.decode s pos).2)) := by
 simp only [Instr.next, getObj, setObj, Sem.run_bind, Sem.run, World.iter_heap, Result.andThen, h, if_true, World.iter_set]
 simp [goInt, Sem.run, World.iter_heap, World.iter_set]
structure NamedTo (s : ByteArray) (k : Nat) : Prop where
 rest : restOk s 0 = restOk s k
 first : 0 < k → firstF s = true
theorem NamedTo.start (s : ByteArray) : NamedTo s 0 := ⟨rfl, fun h => absurd h (by omega)⟩
theorem isL_low {c : Int} (h : isL c = true) : c < 128 := by
 simp [isL, isF] at h; omega
theorem NamedTo.round {s : ByteArray} {k : Nat} (h : NamedTo s k) (hk : k < s.size) :
  (isL ((Utf8.decode s k).1 : Nat) = true ∧ (k = 0 → isF ((Utf8.decode s k).1 : Nat) = true) ∧ (Utf8.decode s k).2 = 1 ∧ NamedTo s (k + 1)) ∨
  (isL ((Utf8.decode s k).1 : Nat) = false ∧ namedF s = false) ∨
  (k = 0 ∧ isL ((Utf8.decode s k).1 : Nat) = true ∧ isF ((Utf8.decode s k).1 : Nat) = false ∧ namedF s = false) := by
 by_cases ha : (s[k]'hk).toNat < 128
 ·have hd := decode_ascii s k hk ha
  rw [hd]
  have hs := restOk_step hk
  by_cases hL : isL ((s[k]'hk).toNat : Nat) = true
  ·by_cases h0 : k = 0
   ·subst h0
    have hf : firstF s = isF ((s[0]'hk).toNat : Nat) := by
     unfold firstF
     have h' : 0 < s.data.toList.length := by simpa using hk
     rw [show s.data.toList = s.data.toList.drop 0 from rfl, List.drop_eq_getElem_cons h']
     rfl
    by_cases hF : isF ((s[0]'hk).toNat : Nat) = true
    ·exact .inl ⟨hL, fun _ => hF, rfl, by rw [h.rest, hs, hL, Bool.true_and], fun _ => by rw [hf, hF]⟩
    ·have hF' : isF ((s[0]'hk).toNat : Nat) = false := by simpa using hF
     exact .inr (.inr ⟨rfl, hL, hF', by rw [namedF_eq, hf, hF', Bool.and_false]⟩)
   ·exact .inl ⟨hL, fun h => absurd h h0, rfl, by rw [h.rest, hs, hL, Bool.true_and], fun _ => h.first (by omega)⟩
  ·have hL' : isL ((s[k]'hk).toNat : Nat) = false := by simpa using hL
   exact .inr (.inl ⟨hL', by rw [namedF_eq, h.rest, hs, hL', Bool.false_and, Bool.and_false, Bool.false_and]⟩)
 ·have hd := decode_high s k hk (by omega)
  have hL : isL ((Utf8.decode s k).1 : Nat) = false := by
   cases hh : isL ((Utf8.decode s k).1 : Nat) with
   | false => rfl
   | true => have := isL_low hh; omega
  have hb : isL ((s[k]'hk).toNat : Nat) = false := by
   cases hh : isL ((s[k]'hk).toNat : Nat) with
   | false => rfl
   | true => have := isL_low hh; omega
  exact .inr (.inl ⟨hL, by rw [namedF_eq, h.rest, restOk_step hk, hb, Bool.false_and, Bool.and_false, Bool.false_and]⟩)
theorem NamedTo.done {s : ByteArray} {k : Nat} (h : NamedTo s k) (hk : ¬ k < s.size) (h0 : ¬ s.size = 0) (h64 : s.size ≤ 64) : namedF s = true := by
 rw [namedF_eq, h.rest, restOk_end hk, h.first (by omega)]
 simp; omega
set_option maxHeartbeats 400000 in
theorem labels_named (s : ByteArray) (w : World) (hs : s.size ≤ maxLen) :
  Calls Tryz.prog 85 #[.string s] w fun e w' => e = .returned (.bool (namedF s)) ∧ Below w.heap.size w w' := by
 unfold maxLen at hs
 by_cases h0 : s.size = 0
 ·have e0 : s = ⟨#[]⟩ := by
   obtain ⟨x⟩ := s
   have : x.size = 0 := h0
   rw [Array.eq_empty_of_size_eq_zero this]
  subst e0
  go_enter Tryz.func85, Tryz.ntmps85
  go_wp2
  go_ret
  exact ⟨by rfl, Below.refl _ _⟩
 ·have hne : s.toList.isEmpty = false := by
   rw [ByteArray.toList_eq]
   have : s.data.toList.length ≠ 0 := by rw [Array.length_toList]; exact h0
   cases hh : s.data.toList with
   | nil => rw [hh] at this; simp at this
   | cons a b => rfl
  by_cases h64 : s.size ≤ 64
  ·have hge : ¬ (64 : Int) < (s.size : Int) := by omega
   go_enter Tryz.func85, Tryz.ntmps85
   go_wp2
   go_loopw [3] (fun _ wr => ∃ k : Nat, k ≤ s.size ∧ wr = w.iter s k ∧ NamedTo s k) (fun _ wr => s.size - wr.iterPos w.heap.size)
   case atStart => exact ⟨0, Nat.zero_le _, rfl, NamedTo.start s⟩
   case round =>
    obtain ⟨k, hk, rfl, hN⟩ := hrel
    by_cases hlt : k < s.size
    ·have hn := fun ty => run_next_str (P := Tryz.prog) w s k ty hlt
     rcases hN.round hlt with ⟨h1, h2, h3, hN'⟩ | ⟨h1, hf⟩ | ⟨rfl, h1, h2, hf⟩
     ·rw [h3] at hn
      have hfk := Lib.hid h2
      generalize ((Utf8.decode s k).1 : Int) = c at hn h1 h2 hfk
      clear h2 h3
      by_cases hk0 : k = 0
      ·subst hk0
       have hF : isF c = true := hfk.out rfl
       go_wp2_with (go_at_call 108; refine (labels_letter _ _).mono ?_; rintro e w' ⟨rfl, rfl⟩)
       go_roundw
       case rel => exact ⟨1, by omega, rfl, hN'⟩
       case measure => simp; omega
      ·have hk1 : ((k : Int) == 0) = false := by simp; omega
       go_wp2_with (go_at_call 108; refine (labels_letter _ _).mono ?_; rintro e w' ⟨rfl, rfl⟩)
       go_roundw
       case rel => exact ⟨k + 1, by omega, rfl, hN'⟩
       case measure => simp; omega
     ·generalize ((Utf8.decode s k).1 : Int) = c at hn h1
      generalize (Utf8.decode s k).2 = wd at hn
      go_wp2_with (go_at_call 108; refine (labels_letter _ _).mono ?_; rintro e w' ⟨rfl, rfl⟩)
      go_ret
      exact ⟨ret_bool hf.symm, (Below.refl _ _).alloc (Nat.le_refl _) _⟩
     ·generalize ((Utf8.decode s 0).1 : Int) = c at hn h1 h2
      generalize (Utf8.decode s 0).2 = wd at hn
      go_wp2_with (go_at_call 108; refine (labels_letter _ _).mono ?_; rintro e w' ⟨rfl, rfl⟩)
      go_ret
      exact ⟨ret_bool hf.symm, (Below.refl _ _).alloc (Nat.le_refl _) _⟩
    ·have hn := fun ty => run_next_end (P := Tryz.prog) w s k ty hlt
     go_wp2
     go_ret
     exact ⟨ret_bool (hN.done hlt h0 h64).symm, (Below.refl _ _).alloc (Nat.le_refl _) _⟩
  ·have hge : (64 : Int) < (s.size : Int) := by omega
   go_enter Tryz.func85, Tryz.ntmps85
   go_wp2
   go_ret
   refine ⟨ret_bool ?_, Below.refl _ _⟩
   simp [namedF, h64]
end Go.Proofs.YtlhmdgaohonpbaaGreatDoor

namespace Go.Proofs
open Go.Shelf
def Tryz.lays196_ren : Go.Shelf.Ren := ⟨fun | 196 => 109 | 259 => 134 | n => n, fun | 9 => 9 | 4 => 4 | 3 => 3 | 5 => 5 | 12 => 12 | 119 => 185 | 0 => 0 | 46 => 119 | 139 => 188 | 138 => 187 | 53 => 34 | n => n, fun | 3 => 0 | 4 => 1 | n => n⟩
theorem Tryz.lays196 : Go.Proofs.Lays.n196 Tryz.prog Tryz.lays196_ren := {
 mixed := by kernel_rfl
 f196 := Tryz.func109.trans (congrArg some (by kernel_rfl))
 f259 := Tryz.func134.trans (congrArg some (by kernel_rfl))
 t0 := Tryz.underlying0
 a0 := Tryz.isAgg0
 z0 := Tryz.sizeOf0
 v0 := Tryz.zeroValue0
 t3 := Tryz.underlying3
 a3 := Tryz.isAgg3
 z3 := Tryz.sizeOf3
 v3 := Tryz.zeroValue3
 t4 := Tryz.underlying4
 a4 := Tryz.isAgg4
 z4 := Tryz.sizeOf4
 v4 := Tryz.zeroValue4
 t5 := Tryz.underlying5
 a5 := Tryz.isAgg5
 z5 := Tryz.sizeOf5
 v5 := Tryz.zeroValue5
 t9 := Tryz.underlying9
 a9 := Tryz.isAgg9
 z9 := Tryz.sizeOf9
 v9 := Tryz.zeroValue9
 t12 := Tryz.underlying12
 a12 := Tryz.isAgg12
 z12 := Tryz.sizeOf12
 v12 := Tryz.zeroValue12
 t46 := Tryz.underlying119
 a46 := Tryz.isAgg119
 z46 := Tryz.sizeOf119
 v46 := Tryz.zeroValue119
 t53 := Tryz.underlying34
 a53 := Tryz.isAgg34
 z53 := Tryz.sizeOf34
 v53 := Tryz.zeroValue34
 t119 := Tryz.underlying185
 a119 := Tryz.isAgg185
 z119 := Tryz.sizeOf185
 t138 := Tryz.underlying187
 a138 := Tryz.isAgg187
 z138 := Tryz.sizeOf187
 v138 := Tryz.zeroValue187
 t139 := Tryz.underlying188
 a139 := Tryz.isAgg188
 z139 := Tryz.sizeOf188
 v139 := Tryz.zeroValue188
 g3 := by kernel_rfl
 g4 := by kernel_rfl }
open Go.RowKit Go.Lib in
theorem Tryz.utf8_ValidString (s : ByteArray) (w : World) (hs : s.size ≤ 9223372036854775807) (hT : Lib.Utf8Tabs 0 1 w) :
  Calls Tryz.prog 109 #[.string s] w fun e w' => e = .returned (.bool (Lib.validD s.data.toList)) ∧ Below w.heap.size w w' := Any.utf8_ValidString Tryz.lays196 s w hs hT
end Go.Proofs

namespace Go.Proofs.YtlhmdgaohonpbaaGreatDoor
open Go.RowKit
def Tabs (w : World) : Prop := Lib.Utf8Tabs 0 1 w
theorem Tabs.keep {w w' : World} (h : Tabs w) (hb : ∀ k, k < 2 → w'.heap[k]? = w.heap[k]?) : Tabs w' := by
 have hc : ∀ k o, k < 2 → w'.cell? ⟨k, o, none⟩ = w.cell? ⟨k, o, none⟩ := fun k o hk => World.cell?_of_block (hb k hk)
 unfold Tabs Lib.Utf8Tabs at *
 refine ⟨fun c hcl => ?_, fun i hi => ⟨?_, ?_⟩⟩
 ·rw [hc _ _ (by decide)]; exact h.1 c hcl
 ·rw [hc _ _ (by decide)]; exact (h.2 i hi).1
 ·rw [hc _ _ (by decide)]; exact (h.2 i hi).2
theorem Tabs.below {B : Nat} {w w' : World} (h : Tabs w) (hb : Below B w w') (hB : 2 ≤ B) : Tabs w' := h.keep fun k hk => hb.block k (by omega)
theorem utf8_valid (s : ByteArray) (w : World) (hs : s.size ≤ 9223372036854775807) (hT : Tabs w) :
  Calls Tryz.prog 109 #[.string s] w fun e w' => e = .returned (.bool (Lib.validD s.data.toList)) ∧ Below w.heap.size w w' := Tryz.utf8_ValidString s w hs hT
end Go.Proofs.YtlhmdgaohonpbaaGreatDoor

namespace Go.Proofs.YtlhmdgaohonpbaaGreatDoor
open Go.RowKit
def valuedF (s : ByteArray) : Bool := decide (s.size ≤ 128) && Lib.validD s.data.toList
def wrongF (x : Lb) (empty : Bool) : Int := if namedF x.n = false then 50 else if valuedF x.v = false then 51 else if empty = false ∧ x.v.size = 0 then 51 else 0
set_option maxHeartbeats 400000 in
theorem labels_valued (s : ByteArray) (w : World) (hs : s.size ≤ maxLen) (hT : Tabs w) :
  Calls Tryz.prog 86 #[.string s] w fun e w' => e = .returned (.bool (valuedF s)) ∧ Below w.heap.size w w' := by
 have hs : s.size ≤ 9223372036854775807 := hs
 by_cases h : s.size ≤ 128
 ·have h' : (s.size : Int) ≤ 128 := by omega
  have e : valuedF s = Lib.validD s.data.toList := by simp [valuedF, h]
  rw [e]
  clear e
  go_enter Tryz.func86, Tryz.ntmps86
  go_wp2_with (go_at_call 109; refine (utf8_valid _ _ hs hT).mono ?_; rintro e w' ⟨rfl, hb⟩)
  go_ret
  exact ⟨rfl, hb⟩
 ·have h' : ¬ (s.size : Int) ≤ 128 := by omega
  have e : valuedF s = false := by simp [valuedF, h]
  rw [e]
  clear e
  go_enter Tryz.func86, Tryz.ntmps86
  go_wp2
  go_ret
  exact ⟨rfl, Below.refl _ _⟩
theorem empty_iff (s : ByteArray) : s.toList.isEmpty = decide (s.size = 0) := by
 rw [ByteArray.toList_eq]
 have : s.data.toList.length = s.size := by rw [Array.length_toList]; rfl
 cases hh : s.data.toList with
 | nil => rw [hh] at this; simp at this; simp [← this]
 | cons a b => rw [hh] at this; simp only [List.length_cons] at this; rw [decide_eq_false (by omega)]; rfl
set_option maxHeartbeats 1000000 in
theorem labels_wrong (x : Lb) (em : Bool) (w : World) (hn : x.n.size ≤ maxLen) (hv : x.v.size ≤ maxLen) (hT : Tabs w) (h2 : 2 ≤ w.heap.size) :
  Calls Tryz.prog 67 #[.agg #[.string x.n, .string x.v], .bool em] w fun e w' => e = .returned (.int .i64 (wrongF x em)) ∧ Below w.heap.size w w' := by
 obtain ⟨nm, vl⟩ := x
 simp only at hn hv ⊢
 by_cases h1 : namedF nm = true
 ·have h4 := empty_iff vl
  by_cases h3 : valuedF vl = true
  ·by_cases h5 : em = false ∧ vl.size = 0
   ·obtain ⟨rfl, h5⟩ := h5
    have h6 : vl.toList.isEmpty = true := by rw [h4]; simpa using h5
    have h7 : vl.toList = [] := by simpa using h6
    have e : wrongF ⟨nm, vl⟩ false = 51 := by simp [wrongF, h1, h3, h5]
    rw [e]
    clear e h5 h4
    go_enter Tryz.func67, Tryz.ntmps67
    go_wp2_with fail
    refine (labels_named _ _ hn).mono ?_
    rw [h1]
    rintro e w1 ⟨rfl, hb1⟩
    obtain ⟨c0, c1, hB1, hz1⟩ := new2 hb1
    go_wp2_with fail
    refine (labels_valued _ _ hv (hT.below hB1 h2)).mono ?_
    rw [h3]
    rintro e w2 ⟨rfl, hb2⟩
    have d0 := later hb2 c0
    have d1 := later hb2 c1
    clear c0 c1
    go_wp2
    go_ret
    exact ⟨rfl, hB1.trans (hb2.mono hB1.size)⟩
   ·have e : wrongF ⟨nm, vl⟩ em = 0 := by unfold wrongF; rw [if_neg (by simp [h1]), if_neg (by simp [h3]), if_neg h5]
    rw [e]
    clear e
    have h6 : em = true ∨ em = false ∧ vl.toList.isEmpty = false := by
     cases em with
     | true => exact .inl rfl
     | false => refine .inr ⟨rfl, ?_⟩; rw [h4]; simpa using h5
    clear h4 h5
    rcases h6 with rfl | ⟨rfl, h6⟩
    all_goals
     go_enter Tryz.func67, Tryz.ntmps67
     go_wp2_with fail
     refine (labels_named _ _ hn).mono ?_
     rw [h1]
     rintro e w1 ⟨rfl, hb1⟩
     obtain ⟨c0, c1, hB1, hz1⟩ := new2 hb1
     go_wp2_with fail
     refine (labels_valued _ _ hv (hT.below hB1 h2)).mono ?_
     rw [h3]
     rintro e w2 ⟨rfl, hb2⟩
     have d0 := later hb2 c0
     have d1 := later hb2 c1
     clear c0 c1
     go_wp2
     go_ret
     exact ⟨rfl, hB1.trans (hb2.mono hB1.size)⟩
  ·have h3' : valuedF vl = false := by simpa using h3
   have e : wrongF ⟨nm, vl⟩ em = 51 := by simp [wrongF, h1, h3']
   rw [e]
   clear e h4 h3
   go_enter Tryz.func67, Tryz.ntmps67
   go_wp2_with fail
   refine (labels_named _ _ hn).mono ?_
   rw [h1]
   rintro e w1 ⟨rfl, hb1⟩
   obtain ⟨c0, c1, hB1, hz1⟩ := new2 hb1
   go_wp2_with fail
   refine (labels_valued _ _ hv (hT.below hB1 h2)).mono ?_
   rw [h3']
   rintro e w2 ⟨rfl, hb2⟩
   have d0 := later hb2 c0
   have d1 := later hb2 c1
   clear c0 c1
   go_wp2
   go_ret
   exact ⟨rfl, hB1.trans (hb2.mono hB1.size)⟩
 ·have h1' : namedF nm = false := by simpa using h1
  have e : wrongF ⟨nm, vl⟩ em = 50 := by simp [wrongF, h1']
  rw [e]
  clear e h1
  go_enter Tryz.func67, Tryz.ntmps67
  go_wp2_with fail
  refine (labels_named _ _ hn).mono ?_
  rw [h1']
  rintro e w1 ⟨rfl, hb1⟩
  obtain ⟨c0, c1, hB1, hz1⟩ := new2 hb1
  go_wp2
  go_ret
  exact ⟨rfl, hB1⟩
end Go.Proofs.YtlhmdgaohonpbaaGreatDoor

namespace Go.Proofs.YtlhmdgaohonpbaaGreatDoor
open Go.RowKit
def leB (a b : ByteArray) : Bool := Op.bytesLess a.toList b.toList || a.toList == b.toList
def behindF (p : Option ByteArray) (n : ByteArray) : Bool := match p with | none => false | some q => leB n q
def rightFrom : Option ByteArray → List Lb → Int
 | _, [] => 0
 | p, x :: r => if wrongF x false ≠ 0 then wrongF x false else if behindF p x.n = true then 53 else rightFrom (some x.n) r
def rightF (l : List Lb) : Int := if 16 < l.length then 3 else rightFrom none l
def prevN (l : List Lb) (k : Nat) : Option ByteArray := match k with | 0 => none | j + 1 => (l[j]?).map Lb.n
structure RightTo (l : List Lb) (k : Nat) : Prop where
 eq : rightFrom none l = rightFrom (prevN l k) (l.drop k)
theorem RightTo.start (l : List Lb) : RightTo l 0 := ⟨rfl⟩
theorem RightTo.round {l : List Lb} {k : Nat} (h : RightTo l k) (hk : k < l.length) :
  (wrongF l[k] false ≠ 0 ∧ rightFrom none l = wrongF l[k] false) ∨
  (wrongF l[k] false = 0 ∧ behindF (prevN l k) l[k].n = true ∧ rightFrom none l = 53) ∨
  (wrongF l[k] false = 0 ∧ behindF (prevN l k) l[k].n = false ∧ RightTo l (k + 1)) := by
 have e := h.eq
 rw [List.drop_eq_getElem_cons hk, rightFrom] at e
 by_cases h1 : wrongF l[k] false = 0
 ·rw [if_neg (by simp [h1])] at e
  by_cases h2 : behindF (prevN l k) l[k].n = true
  ·rw [if_pos h2] at e; exact .inr (.inl ⟨h1, h2, e⟩)
  ·rw [if_neg h2] at e
   exact .inr (.inr ⟨h1, by simpa using h2, ⟨by rw [e]; simp [prevN, List.getElem?_eq_getElem hk]⟩⟩)
 ·rw [if_pos h1] at e; exact .inl ⟨h1, e⟩
theorem RightTo.done {l : List Lb} {k : Nat} (h : RightTo l k) (hk : ¬ k < l.length) : rightFrom none l = 0 := by
 rw [h.eq, List.drop_of_length_le (by omega)]; rfl
def SzL (l : List Lb) : Prop := ∀ x ∈ l, x.n.size ≤ maxLen ∧ x.v.size ≤ maxLen
theorem RdL.below {w w' : World} {A : Option Addr} {l : List Lb} (h : RdL w A l) (hb : Below w.heap.size w w') : RdL w' A l := by
 intro i x hx
 obtain ⟨b, off, e, h⟩ := h i x hx
 exact ⟨b, off, e, fun j u hj => later hb (h j u hj)⟩
set_option maxHeartbeats 1000000 in
theorem labels_right (A : Option Addr) (c : Nat) (l : List Lb) (w : World) (hA : RdL w A l) (hl : l.length ≤ maxLen) (hz : SzL l) (hT : Tabs w) (h2 : 2 ≤ w.heap.size) :
  Calls Tryz.prog 42 #[.slice A l.length c] w fun e w' => e = .returned (.int .i64 (rightF l)) ∧ Below w.heap.size w w' := by
 by_cases h16 : 16 < l.length
 ·have e : rightF l = 3 := by simp [rightF, h16]
  rw [e]
  clear e
  have h' : (16 : Int) < (l.length : Int) := by omega
  go_enter Tryz.func42, Tryz.ntmps42
  go_wp2
  go_ret
  exact ⟨rfl, Below.refl _ _⟩
 ·have e : rightF l = rightFrom none l := by simp [rightF, h16]
  rw [e]
  clear e
  obtain ⟨n, hn⟩ : ∃ n, n = l.length := ⟨_, rfl⟩
  rw [← hn]
  have h' : ¬ (16 : Int) < (n : Int) := by omega
  have hnb : n ≤ 16 := by omega
  have Hn := Lib.hid hn
  clear hn h16 hl
  go_enter Tryz.func42, Tryz.ntmps42
  go_wp2
  go_loopw [11] (fun i wr => ∃ k : Nat, k ≤ n ∧ i = .int .i64 k ∧ RightTo l k ∧ Below w.heap.size w wr) (fun i _ => n - (intOf i).toNat)
  case atStart => exact ⟨0, Nat.zero_le _, rfl, RightTo.start l, Below.refl _ _⟩
  case round =>
   obtain ⟨k, hk, rfl, hR, hB⟩ := hrel
   by_cases hlt : k < n
   ·have hkl : k < l.length := by rw [← Hn.out]; exact hlt
    have hAr := hA.below hB
    obtain ⟨b, off, rfl, c0, c1⟩ := hAr.at_ hkl
    have hsz := hz l[k] (List.getElem_mem hkl)
    have hTr := hT.below hB h2
    have hsr := hB.size
    rcases hR.round hkl with ⟨g1, g2⟩ | ⟨g1, g2, g3⟩ | ⟨g1, g2, hR'⟩
    ·have G2 := Lib.hid g2
     have g4 : (wrongF l[k] false != 0) = true := by simpa using g1
     have hwr := labels_wrong l[k] false (wr.alloc (.cells #[.string l[k].n, .string l[k].v] 80)) hsz.1 hsz.2 (hTr.below ((Below.refl wr.heap.size wr).alloc (Nat.le_refl _) _) (by omega)) (by simp; omega)
     clear g2
     generalize l[k] = x at *
     generalize wrongF x false = q at *
     clear g1
     go_wp2_with fail
     refine hwr.mono ?_
     rintro e w1 ⟨rfl, hb1⟩
     obtain ⟨d0, d1, hB1, hz1⟩ := new2 hb1
     go_wp2
     go_ret
     exact ⟨ret_int G2.out.symm, hB.trans (hB1.mono hsr)⟩
    ·have G3 := Lib.hid g3
     have hwr := labels_wrong l[k] false (wr.alloc (.cells #[.string l[k].n, .string l[k].v] 80)) hsz.1 hsz.2 (hTr.below ((Below.refl wr.heap.size wr).alloc (Nat.le_refl _) _) (by omega)) (by simp; omega)
     rw [g1] at hwr
     obtain ⟨j, rfl⟩ : ∃ j, k = j + 1 := by
      cases k with
      | zero => simp [prevN, behindF] at g2
      | succ j => exact ⟨j, rfl⟩
     have hjl : j < l.length := by omega
     obtain ⟨b', off', eA, p0, p1⟩ := hAr.at_ hjl
     cases eA
     have g2' : leB l[j + 1].n l[j].n = true := by simpa [prevN, behindF, List.getElem?_eq_getElem hjl] using g2
     unfold leB at g2'
     clear g3 g1 g2
     generalize l[j + 1] = x at *
     generalize l[j] = y at *
     have hcur : ((j + 1 : Nat) : Int) = (j : Int) + 1 := by omega
     go_wp2_with fail
     refine hwr.mono ?_
     rintro e w1 ⟨rfl, hb1⟩
     obtain ⟨d0, d1, hB1, hz1⟩ := new2 hb1
     have p0' := later hB1 p0
     clear p0 p1 c0 c1
     go_wp2
     go_quiet (fail)
     go_wp2
     go_ret
     exact ⟨ret_int G3.out.symm, bdr (hB.trans (hB1.mono hsr)) _⟩
    ·have hwr := labels_wrong l[k] false (wr.alloc (.cells #[.string l[k].n, .string l[k].v] 80)) hsz.1 hsz.2 (hTr.below ((Below.refl wr.heap.size wr).alloc (Nat.le_refl _) _) (by omega)) (by simp; omega)
     rw [g1] at hwr
     by_cases hk0 : k = 0
     ·subst hk0
      clear g1 g2
      generalize l[0] = x at *
      simp only [Nat.zero_mul, Nat.add_zero] at c0 c1
      go_wp2_with fail
      refine hwr.mono ?_
      rintro e w1 ⟨rfl, hb1⟩
      obtain ⟨d0, d1, hB1, hz1⟩ := new2 hb1
      go_wp2
      go_quiet (fail)
      go_wp2
      go_roundw
      case rel => exact ⟨1, by omega, by go_num, hR', bdr (hB.trans (hB1.mono hsr)) _⟩
      case measure => simp [intOf]; omega
     ·obtain ⟨j, rfl⟩ : ∃ j, k = j + 1 := ⟨k - 1, by omega⟩
      have hjl : j < l.length := by omega
      obtain ⟨b', off', eA, p0, p1⟩ := hAr.at_ hjl
      cases eA
      have g2' : leB l[j + 1].n l[j].n = false := by simpa [prevN, behindF, List.getElem?_eq_getElem hjl] using g2
      unfold leB at g2'
      clear g1 g2
      generalize l[j + 1] = x at *
      generalize l[j] = y at *
      have hcur : ((j + 1 : Nat) : Int) = (j : Int) + 1 := by omega
      go_wp2_with fail
      refine hwr.mono ?_
      rintro e w1 ⟨rfl, hb1⟩
      obtain ⟨d0, d1, hB1, hz1⟩ := new2 hb1
      have p0' := later hB1 p0
      clear p0 p1 c0 c1
      go_wp2
      go_quiet (fail)
      go_wp2
      go_roundw
      case rel => exact ⟨j + 1 + 1, by omega, by go_num, hR', bdr (hB.trans (hB1.mono hsr)) _⟩
      case measure => simp [intOf]; omega
   ·go_wp2
    go_ret
    exact ⟨ret_int (hR.done (by rw [← Hn.out]; exact hlt)).symm, hB⟩
end Go.Proofs.YtlhmdgaohonpbaaGreatDoor

namespace Go.Proofs.YtlhmdgaohonpbaaGreatDoor
open Go.RowKit
def escB (c : UInt8) : List UInt8 := if c = 34 ∨ c = 92 then [92, c] else if c = 10 then [92, 110] else [c]
def quoteF (s : List UInt8) : List UInt8 := 34 :: (s.flatMap escB ++ [34])
theorem escB_len (c : UInt8) : (escB c).length ≤ 2 := by unfold escB; (repeat' split) <;> simp
theorem flat_len (l : List UInt8) : (l.flatMap escB).length ≤ 2 * l.length := by
 induction l with
 | nil => simp
 | cons c r ih => have := escB_len c; rw [List.flatMap_cons, List.length_append, List.length_cons]; omega
theorem size_list (s : ByteArray) : s.data.toList.length = s.size := by rw [Array.length_toList]; rfl
theorem info_u8 : (Tryz.prog.info? 5).map (fun i => (i.zero, i.size, i.bytes)) = some (some (.int .u8 0), 1, 1) := by kernel_rfl
theorem take_step (s : ByteArray) (k : Nat) (h : k < s.size) : s.data.toList.take (k + 1) = s.data.toList.take k ++ [s[k]] := by
 rw [List.take_succ_eq_append_getElem (by rw [size_list]; exact h)]; rfl
def qb (s : ByteArray) (k : Nat) : List UInt8 := 34 :: (s.data.toList.take k).flatMap escB
theorem qb_len (s : ByteArray) (k : Nat) : (qb s k).length ≤ 2 * s.size + 1 := by
 have := flat_len (s.data.toList.take k)
 have h2 : (s.data.toList.take k).length ≤ s.size := by rw [← size_list]; exact List.length_take_le' _ _
 simp only [qb, List.length_cons]; omega
theorem qb_step (s : ByteArray) (k : Nat) (h : k < s.size) : qb s (k + 1) = qb s k ++ escB s[k] := by
 simp only [qb, take_step s k h, List.flatMap_append, List.flatMap_cons, List.flatMap_nil, List.append_nil, List.cons_append]
theorem row_next {wr : World} {B : Nat} {e : TypeId} {v : Value} {p q l : List UInt8} (hq : q = p ++ l) (h : wr.ownsRow B e 1 v (p.length + l.length) (byteVals p ++ byteVals l)) : wr.ownsRow B e 1 v q.length (byteVals q) := by
 rw [hq, List.length_append, byteVals_append]; exact h
set_option maxHeartbeats 1000000 in
theorem labels_quote (s : ByteArray) (w : World) (hs : s.size ≤ 1000000) :
  Calls Tryz.prog 68 #[.string s] w fun e w' => e = .returned (.string ⟨(quoteF s.data.toList).toArray⟩) ∧ Below w.heap.size w w' := by
 go_enter Tryz.func68, Tryz.ntmps68
 go_wp2
 go_loopw [3, 8] (fun v i wr => ∃ k : Nat, k ≤ s.size ∧ i = .int .i64 k ∧ wr.ownsRow w.heap.size 5 1 v (qb s k).length (byteVals (qb s k)) ∧ Below w.heap.size w wr) (fun _ i _ => s.size - (intOf i).toNat)
 case atStart => exact ⟨0, Nat.zero_le _, rfl, World.ownsRow_lit w _ 1 (Nat.le_refl _) (by decide) rfl, (Below.refl _ _).alloc (Nat.le_refl _) _⟩
 case round =>
  obtain ⟨k, hk, rfl, hO, hB⟩ := hrel
  have hbs := hB.size
  have hq := qb_len s k
  by_cases hlt : k < s.size
  ·have hqs := Lib.hid (qb_step s k hlt)
   by_cases h34 : s[k] = 34 ∨ s[k] = 92
   ·have E1 := Lib.hid (show escB s[k] = [92, s[k]] by simp [escB, h34])
    have e2 : ((s[k].toNat : Int) == 34) = true ∨ ((s[k].toNat : Int) == 34) = false ∧ ((s[k].toNat : Int) == 92) = true := by
     rcases h34 with h | h
     ·exact .inl (by rw [h]; rfl)
     ·exact .inr ⟨by rw [h]; rfl, by rw [h]; rfl⟩
    clear h34
    rcases e2 with e2 | ⟨e2, e3⟩
    all_goals
     go_wp2_with (at_builtin; refine app_box (w0 := w) w.heap.size rfl _ _ 130 5 (.int .u8 0) 1 1 2 #[.int .u8 92, .int .u8 s[k].toNat] rfl Tryz.underlying130 info_u8 rfl (by decide) (by decide) _ _ _ rfl rfl rfl (by simp [Value.oneCell']) hO hB hbs (by omega) ?_; intro v1 w1 hO1 hB1 _ _)
     go_roundw
     case rel => exact ⟨k + 1, by omega, by go_num, row_next (l := [92, s[k]]) (by rw [hqs.out, E1.out]) hO1, hB1⟩
     case measure => simp [intOf]; omega
   ·have e2 : ((s[k].toNat : Int) == 34) = false := by
     rw [beq_eq_false_iff_ne]; intro h; exact h34 (.inl (UInt8.toNat_inj.1 (by simpa using Int.ofNat.inj h)))
    have e3 : ((s[k].toNat : Int) == 92) = false := by
     rw [beq_eq_false_iff_ne]; intro h; exact h34 (.inr (UInt8.toNat_inj.1 (by simpa using Int.ofNat.inj h)))
    by_cases h10 : s[k] = 10
    ·have E1 := Lib.hid (show escB s[k] = [92, 110] by simp [escB, h34, h10])
     have e4 : ((s[k].toNat : Int) == 10) = true := by rw [h10]; rfl
     clear h34 h10
     go_wp2_with (at_builtin; refine app_box (w0 := w) w.heap.size rfl _ _ 130 5 (.int .u8 0) 1 1 2 #[.int .u8 92, .int .u8 110] rfl Tryz.underlying130 info_u8 rfl (by decide) (by decide) _ _ _ rfl rfl rfl (by simp [Value.oneCell']) hO hB hbs (by omega) ?_; intro v1 w1 hO1 hB1 _ _)
     go_roundw
     case rel => exact ⟨k + 1, by omega, by go_num, row_next (l := [92, 110]) (by rw [hqs.out, E1.out]) hO1, hB1⟩
     case measure => simp [intOf]; omega
    ·have E1 := Lib.hid (show escB s[k] = [s[k]] by simp [escB, h34, h10])
     have e4 : ((s[k].toNat : Int) == 10) = false := by
      rw [beq_eq_false_iff_ne]; intro h; exact h10 (UInt8.toNat_inj.1 (by simpa using Int.ofNat.inj h))
     clear h34 h10
     go_wp2_with (at_builtin; refine app_box (w0 := w) w.heap.size rfl _ _ 130 5 (.int .u8 0) 1 1 1 #[.int .u8 s[k].toNat] rfl Tryz.underlying130 info_u8 rfl (by decide) (by decide) _ _ _ rfl rfl rfl (by simp [Value.oneCell']) hO hB hbs (by omega) ?_; intro v1 w1 hO1 hB1 _ _)
     go_roundw
     case rel => exact ⟨k + 1, by omega, by go_num, row_next (l := [s[k]]) (by rw [hqs.out, E1.out]) hO1, hB1⟩
     case measure => simp [intOf]; omega
  ·obtain ⟨L, hL⟩ : ∃ L, L = qb s k ++ [34] := ⟨_, rfl⟩
   have Hq := Lib.hid (show quoteF s.data.toList = L by
    rw [hL]; simp only [quoteF, qb, List.cons_append]; rw [List.take_of_length_le (by rw [size_list]; omega)])
   have HL := Lib.hid hL
   clear hL
   go_wp2_with (at_builtin; refine app_box (w0 := w) w.heap.size rfl _ _ 130 5 (.int .u8 0) 1 1 1 #[.int .u8 34] rfl Tryz.underlying130 info_u8 rfl (by decide) (by decide) _ _ _ rfl rfl rfl (by simp [Value.oneCell']) hO hB hbs (by omega) ?_; intro v1 w1 hO1 hB1 _ _; have hcv := own_string (P := Tryz.prog) (l := L) Tryz.underlying130 Tryz.underlying5 Tryz.underlying9 (by rw [HL.out, byteVals_append]; exact hO1))
   go_ret
   exact ⟨by rw [Hq.out]; rfl, hB1⟩
end Go.Proofs.YtlhmdgaohonpbaaGreatDoor

namespace Go.Proofs.YtlhmdgaohonpbaaGreatDoor
open Go.RowKit
def sB (l : List UInt8) : ByteArray := ⟨l.toArray⟩
def quoteB (s : ByteArray) : ByteArray := ⟨(quoteF s.data.toList).toArray⟩
def sepP (i : Nat) (out : ByteArray) : ByteArray := if 0 < i then out ++ sB [44, 32] else out
def stepP (i : Nat) (out : ByteArray) (x : Lb) : ByteArray := sepP i out ++ ((x.n ++ sB [61]) ++ quoteB x.v)
def printFrom : Nat → ByteArray → List Lb → ByteArray
 | _, out, [] => out
 | i, out, x :: r => printFrom (i + 1) (stepP i out x) r
def printF (l : List Lb) : ByteArray := printFrom 0 (sB [123]) l ++ sB [125]
structure PrintTo (l : List Lb) (k : Nat) (out : ByteArray) : Prop where
 eq : printFrom 0 (sB [123]) l = printFrom k out (l.drop k)
 sz : out.size ≤ 1 + k * 4000
theorem PrintTo.start (l : List Lb) : PrintTo l 0 (sB [123]) := ⟨rfl, by decide⟩
structure ShortL (l : List Lb) : Prop where
 len : l.length ≤ 100
 txt : ∀ x ∈ l, x.n.size ≤ 1000 ∧ x.v.size ≤ 1000
theorem quoteB_size (s : ByteArray) (h : s.size ≤ 1000) : (quoteB s).size ≤ 2002 := by
 have := flat_len s.data.toList
 rw [size_list] at this
 show (quoteF s.data.toList).toArray.size ≤ 2002
 simp only [quoteF, List.size_toArray, List.length_cons, List.length_append, List.length_nil]; omega
theorem PrintTo.round {l : List Lb} {k : Nat} {out : ByteArray} (h : PrintTo l k out) (hs : ShortL l) (hk : k < l.length) : PrintTo l (k + 1) (stepP k out l[k]) := by
 have e := h.eq
 rw [List.drop_eq_getElem_cons hk, printFrom] at e
 refine ⟨e, ?_⟩
 have := h.sz
 have h2 := hs.txt l[k] (List.getElem_mem hk)
 have h3 := quoteB_size l[k].v h2.2
 have h4 : (sepP k out).size ≤ out.size + 2 := by
  unfold sepP; split
  ·rw [ByteArray.size_append]; show out.size + 2 ≤ _; omega
  ·omega
 have h5 : (sB [61]).size = 1 := rfl
 simp only [stepP, ByteArray.size_append, h5]; omega
theorem PrintTo.done {l : List Lb} {k : Nat} {out : ByteArray} (h : PrintTo l k out) (hk : ¬ k < l.length) : printF l = out ++ sB [125] := by
 unfold printF; rw [h.eq, List.drop_of_length_le (by omega)]; rfl
set_option maxHeartbeats 1000000 in
theorem labels_print (A : Option Addr) (c : Nat) (l : List Lb) (w : World) (hA : RdL w A l) (hs : ShortL l) :
  Calls Tryz.prog 43 #[.slice A l.length c] w fun e w' => e = .returned (.string (printF l)) ∧ Below w.heap.size w w' := by
 obtain ⟨n, hn⟩ : ∃ n, n = l.length := ⟨_, rfl⟩
 rw [← hn]
 have hnb : n ≤ 100 := by rw [hn]; exact hs.len
 have Hn := Lib.hid hn
 clear hn
 go_enter Tryz.func43, Tryz.ntmps43
 go_wp2
 go_loopw [3, 8] (fun v i wr => ∃ (k : Nat) (out : ByteArray), k ≤ n ∧ i = .int .i64 k ∧ v = .string out ∧ PrintTo l k out ∧ Below w.heap.size w wr) (fun _ i _ => n - (intOf i).toNat)
 case atStart => exact ⟨0, _, Nat.zero_le _, rfl, rfl, PrintTo.start l, Below.refl _ _⟩
 case round =>
  obtain ⟨k, out, hk, rfl, rfl, hP, hB⟩ := hrel
  have hbs := hB.size
  have hPs := hP.sz
  by_cases hlt : k < n
  ·have hkl : k < l.length := by rw [← Hn.out]; exact hlt
   have hAr := hA.below hB
   obtain ⟨b, off, rfl, c0, c1⟩ := hAr.at_ hkl
   have hP' := hP.round hs hkl
   have hx := hs.txt l[k] (List.getElem_mem hkl)
   have hq2 := quoteB_size l[k].v hx.2
   have hos : out.size ≤ 500000 := by omega
   generalize l[k] = x at *
   clear hPs hP
   by_cases hk0 : k = 0
   ·subst hk0
    simp only [Nat.zero_mul, Nat.add_zero] at c0 c1
    have hW : Below w.heap.size w (wr.alloc (.cells #[.string x.n, .string x.v] 80)).drew := bdrew (balloc hB _)
    have e0 : (wr.alloc (.cells #[.string x.n, .string x.v] 80)).drew.cell? ⟨wr.heap.size, 0, none⟩ = some (.string x.n) := by simp
    have e1 : (wr.alloc (.cells #[.string x.n, .string x.v] 80)).drew.cell? ⟨wr.heap.size, 1, none⟩ = some (.string x.v) := by simp
    have a1 := fun W => run_string_add_sum (P := Tryz.prog) (w := W) x.n ⟨#[61]⟩ (by have : (⟨#[61]⟩ : ByteArray).size = 1 := rfl; omega)
    have a2 := fun W => run_string_add_sum (P := Tryz.prog) (w := W) (x.n ++ ⟨#[61]⟩) ⟨(quoteF x.v.data.toList).toArray⟩ (by have : (⟨#[61]⟩ : ByteArray).size = 1 := rfl; rw [ByteArray.size_append]; have h : (quoteB x.v).size ≤ 2002 := hq2; unfold quoteB at h; omega)
    have a3 := fun W => run_string_add_sum (P := Tryz.prog) (w := W) (out) (x.n ++ ⟨#[61]⟩ ++ ⟨(quoteF x.v.data.toList).toArray⟩) (by have : (⟨#[61]⟩ : ByteArray).size = 1 := rfl; have : (⟨#[44, 32]⟩ : ByteArray).size = 2 := rfl; simp only [ByteArray.size_append]; have h : (quoteB x.v).size ≤ 2002 := hq2; unfold quoteB at h; omega)
    have hv1000 := hx.2
    clear hq2 hx
    go_wp2
    go_region_held3 (fun w' => w'.cell? ⟨wr.heap.size, 0, none⟩ = some (.string x.n) ∧ w'.cell? ⟨wr.heap.size, 1, none⟩ = some (.string x.v) ∧ Below w.heap.size w w') (first | exact ⟨e0, e1, hW⟩ | exact ⟨later hb e0, later hb e1, bthen hW hb⟩)
     (first | (go_at_call 68; refine (labels_quote _ _ (by omega)).mono ?_; rintro e w' ⟨rfl, hb⟩))
    go_wp2
    go_roundw
    case rel => exact ⟨0 + 1, stepP 0 out x, by omega, by go_num, by simp [stepP, sepP, quoteB, sB], hP', by first | assumption | exact bthen hW (by assumption)⟩
    case measure => simp [intOf]; omega
   ·have h0 : (0 : Int) < (k : Int) := by omega
    have hW : Below w.heap.size w (wr.alloc (.cells #[.string x.n, .string x.v] 80)).drew := bdrew (balloc hB _)
    have e0 : (wr.alloc (.cells #[.string x.n, .string x.v] 80)).drew.cell? ⟨wr.heap.size, 0, none⟩ = some (.string x.n) := by simp
    have e1 : (wr.alloc (.cells #[.string x.n, .string x.v] 80)).drew.cell? ⟨wr.heap.size, 1, none⟩ = some (.string x.v) := by simp
    have a1 := fun W => run_string_add_sum (P := Tryz.prog) (w := W) x.n ⟨#[61]⟩ (by have : (⟨#[61]⟩ : ByteArray).size = 1 := rfl; omega)
    have a2 := fun W => run_string_add_sum (P := Tryz.prog) (w := W) (x.n ++ ⟨#[61]⟩) ⟨(quoteF x.v.data.toList).toArray⟩ (by have : (⟨#[61]⟩ : ByteArray).size = 1 := rfl; rw [ByteArray.size_append]; have h : (quoteB x.v).size ≤ 2002 := hq2; unfold quoteB at h; omega)
    have a3 := fun W => run_string_add_sum (P := Tryz.prog) (w := W) (out ++ ⟨#[44, 32]⟩) (x.n ++ ⟨#[61]⟩ ++ ⟨(quoteF x.v.data.toList).toArray⟩) (by have : (⟨#[61]⟩ : ByteArray).size = 1 := rfl; have : (⟨#[44, 32]⟩ : ByteArray).size = 2 := rfl; simp only [ByteArray.size_append]; have h : (quoteB x.v).size ≤ 2002 := hq2; unfold quoteB at h; omega)
    have hv1000 := hx.2
    clear hq2 hx
    go_wp2
    go_region_held3 (fun w' => w'.cell? ⟨wr.heap.size, 0, none⟩ = some (.string x.n) ∧ w'.cell? ⟨wr.heap.size, 1, none⟩ = some (.string x.v) ∧ Below w.heap.size w w') (first | exact ⟨e0, e1, hW⟩ | exact ⟨later hb e0, later hb e1, bthen hW hb⟩)
     (first | (go_at_call 68; refine (labels_quote _ _ (by omega)).mono ?_; rintro e w' ⟨rfl, hb⟩))
    go_wp2
    go_roundw
    case rel => exact ⟨k + 1, stepP k out x, by omega, by go_num, by simp [stepP, sepP, quoteB, sB, Nat.pos_of_ne_zero hk0], hP', by first | assumption | exact bthen hW (by assumption)⟩
    case measure => simp [intOf]; omega
  ·go_wp2
   go_ret
   exact ⟨by rw [hP.done (by rw [← Hn.out]; exact hlt)]; rfl, hB⟩
end Go.Proofs.YtlhmdgaohonpbaaGreatDoor

namespace Go.Proofs.YtlhmdgaohonpbaaGreatDoor
open Go.RowKit
set_option maxHeartbeats 400000 in
theorem ref05_same (A B : Option Addr) (cA cB : Nat) (la lb : List Lb) (w : World) (hA : RdL w A la) (hB : RdL w B lb) (ha : la.length ≤ maxLen) (hb : lb.length ≤ maxLen) :
  Calls Tryz.prog 14 #[.slice A la.length cA, .slice B lb.length cB] w fun e w' => e = .returned (.bool (decide (la = lb))) ∧ Below w.heap.size w w' := by
 have ha : la.length ≤ 9223372036854775807 := ha
 have hb : lb.length ≤ 9223372036854775807 := hb
 by_cases hlen : la.length = lb.length
 ·obtain ⟨n, hn⟩ : ∃ n, n = la.length := ⟨_, rfl⟩
  have hn2 : n = lb.length := hn.trans hlen
  rw [← hn, ← hn2]
  have Hn := Lib.hid hn
  have Hn2 := Lib.hid hn2
  have hnb : n ≤ 9223372036854775807 := by omega
  clear hn hn2 ha hb hlen
  go_enter Tryz.func14, Tryz.ntmps14
  go_wp2
  go_loopw [13] (fun i wr => ∃ k : Nat, k ≤ n ∧ i = .int .i64 k ∧ la.take k = lb.take k ∧ ∃ m, wr = w.drewN m) (fun i _ => n - (intOf i).toNat)
  case atStart => exact ⟨0, Nat.zero_le _, rfl, rfl, 0, rfl⟩
  case round =>
   obtain ⟨k, hk, rfl, ht, m, rfl⟩ := hrel
   have Ht := Lib.hid ht
   clear ht
   by_cases hlt : k < n
   ·obtain ⟨b, off, rfl, c0, c1⟩ := hA.at_ (k := k) (by rw [← Hn.out]; exact hlt)
    obtain ⟨b', off', rfl, c0', c1'⟩ := hB.at_ (k := k) (by rw [← Hn2.out]; exact hlt)
    have hq := fun w => run_neq_lbl w la[k] lb[k]
    have hg := fun w op x y xs ys => run_guard_lbl w op x y xs ys
    by_cases heq : la[k] = lb[k]
    ·have hd : decide (la[k] = lb[k]) = true := by simp [heq]
     simp only [hd, Bool.not_true] at hq
     have Heq := Lib.hid heq
     clear heq hd
     go_wp2
     go_quiet (fail)
     go_wp2
     go_roundw
     case rel => exact ⟨k + 1, by omega, by go_num, by rw [List.take_succ_eq_append_getElem (by rw [← Hn.out]; exact hlt), List.take_succ_eq_append_getElem (by rw [← Hn2.out]; exact hlt), Ht.out, Heq.out], _, rfl⟩
     case measure => simp [intOf]; omega
    ·have hd : decide (la[k] = lb[k]) = false := by simp [heq]
     simp only [hd, Bool.not_false] at hq
     clear hd
     go_wp2
     go_quiet (fail)
     go_wp2
     go_ret
     refine ⟨ret_bool ?_, bdr (bdr (Below.refl _ _) _) _⟩
     have : ¬ la = lb := fun e => by subst e; exact heq rfl
     simp [this]
   ·go_wp2
    go_ret
    refine ⟨ret_bool ?_, bdr (Below.refl _ _) _⟩
    have : la = lb := by
     have := Ht.out
     rwa [List.take_of_length_le (by rw [← Hn.out]; omega), List.take_of_length_le (by rw [← Hn2.out]; omega)] at this
    simp [this]
 ·have hl0 : ((la.length : Int) == (lb.length : Int)) = false := by simp; omega
  have hl1 : ((la.length : Int) != (lb.length : Int)) = true := by simp; omega
  have hne : ¬ la = lb := fun e => hlen (by rw [e])
  go_enter Tryz.func14, Tryz.ntmps14
  go_wp2
  go_ret
  refine ⟨by simp [hne], Below.refl _ _⟩
end Go.Proofs.YtlhmdgaohonpbaaGreatDoor

namespace Go.Proofs.YtlhmdgaohonpbaaGreatDoor
open Go.RowKit
theorem lb_len (x : Lb) : x.enc.length = 2 := rfl
theorem lb_one (x : Lb) : ∀ u ∈ x.enc, u.oneCell' = true := by intro u hu; simp [Lb.enc] at hu; rcases hu with rfl | rfl <;> rfl
theorem info_lb : (Tryz.prog.info? 80).map (fun i => (i.zero, i.size, i.bytes)) = some (some (.agg #[.string ⟨#[]⟩, .string ⟨#[]⟩]), 2, 32) := by kernel_rfl
abbrev SlL (w : World) (D : Nat → Prop) (v : Value) (l : List Lb) : Prop := Slc 2 Lb.enc w D v l
def ClonePost (w : World) (l : List Lb) (e : Ending) (w' : World) : Prop := ∃ v, e = .returned v ∧ SlL w' (fun k => w.heap.size ≤ k) v l ∧ Below w.heap.size w w'
set_option maxRecDepth 100000 in
set_option maxHeartbeats 400000 in
theorem labels_clone {D : Nat → Prop} (v : Value) (l : List Lb) (w : World) (hv : SlL w D v l) (hl : l.length ≤ 1000000) :
  Calls Tryz.prog 44 #[v] w (ClonePost w l) := by
 have hsrc := hv.src lb_len lb_one (by decide)
 obtain ⟨A, c, rfl, h1, h2, h3, h4, h5⟩ := hv
 obtain ⟨n, hn⟩ : ∃ n, n = l.length := ⟨_, rfl⟩
 rw [← hn] at hl hsrc ⊢
 have Hn := Lib.hid hn
 have Hs := Lib.hid hsrc
 cases A with
 | none =>
  have hl0 : l = [] := by
   cases l with
   | nil => rfl
   | cons x r => obtain ⟨b, off, e, _⟩ := h5 0 x rfl; cases e
  subst hl0
  have hc := h3 rfl
  subst hc
  have hn0 : n = 0 := hn
  subst hn0
  clear h1 h2 h3 h4 h5 hn hsrc Hs
  have ks := fun (W : World) => Lib.run_eql_slice_nil (P := Tryz.prog) W 29 80 none 0 0 0 0 Tryz.underlying29
  go_enter Tryz.func44, Tryz.ntmps44
  go_wp2
  go_ret
  exact ⟨_, rfl, Slc.nil _ _ _ _, Below.refl _ _⟩
 | some ad =>
  have ks := fun (W : World) => Lib.run_eql_slice_nil (P := Tryz.prog) W 29 80 (some ad) n c 0 0 Tryz.underlying29
  clear h1 h2 h3 h4 h5 hn hsrc
  go_enter Tryz.func44, Tryz.ntmps44
  go_wp2_with ((refine wpList_app (o := ⟨some 7, _, _, _, _, _⟩) (w0 := w) w.heap.size rfl _ _ 29 80 _ 2 32 n (l.flatMap Lb.enc) rfl Tryz.underlying29 info_lb rfl (by decide) (by decide) (.slice (some ⟨w.heap.size, 0, none⟩) 0 0) 0 [] rfl (Hs.out.below (balloc (Below.refl _ _) _)) (World.ownsRow_lit w #[] 0 (Nat.le_refl _) (by decide) rfl) (balloc (Below.refl _ _) _) (by simp) (by omega) ?_; intro v1 w5 hO hB5 hg5 hat5; simp only [Nat.zero_add, List.nil_append] at hO))
  go_ret
  exact ⟨_, rfl, own_slc lb_len Hn.out hO, hB5⟩
end Go.Proofs.YtlhmdgaohonpbaaGreatDoor

namespace Go.Proofs.YtlhmdgaohonpbaaGreatDoor
open Go.RowKit
theorem wrong_ok {x : Lb} (h : wrongF x false = 0) : namedF x.n = true ∧ valuedF x.v = true ∧ x.v.size ≠ 0 := by
 unfold wrongF at h
 cases h1 : namedF x.n with
 | false => simp [h1] at h
 | true =>
  cases h2 : valuedF x.v with
  | false => simp [h1, h2] at h
  | true =>
   refine ⟨rfl, rfl, fun h3 => ?_⟩
   rw [if_neg (by simp [h1]), if_neg (by simp [h2]), if_pos ⟨rfl, h3⟩] at h
   cases h
theorem rightFrom_ok : ∀ (l : List Lb) (p : Option ByteArray), rightFrom p l = 0 → ∀ x ∈ l, wrongF x false = 0
 | [], _, _, x, hx => by simp at hx
 | y :: r, p, h, x, hx => by
  unfold rightFrom at h
  by_cases h1 : wrongF y false = 0
  ·rw [if_neg (by simp [h1])] at h
   by_cases h2 : behindF p y.n = true
   ·rw [if_pos h2] at h; cases h
   ·rw [if_neg h2] at h
    rcases List.mem_cons.1 hx with rfl | hx
    ·exact h1
    ·exact rightFrom_ok r _ h x hx
  ·rw [if_pos h1] at h; exact absurd h h1
theorem right_ok {l : List Lb} (h : rightF l = 0) : l.length ≤ 16 ∧ ∀ x ∈ l, namedF x.n = true ∧ valuedF x.v = true ∧ x.v.size ≠ 0 := by
 unfold rightF at h
 by_cases h1 : 16 < l.length
 ·rw [if_pos h1] at h; cases h
 ·rw [if_neg h1] at h
  exact ⟨by omega, fun x hx => wrong_ok (rightFrom_ok l none h x hx)⟩
theorem right_short {l : List Lb} (h : rightF l = 0) : ShortL l := by
 obtain ⟨h1, h2⟩ := right_ok h
 refine ⟨by omega, fun x hx => ?_⟩
 obtain ⟨h3, h4, _⟩ := h2 x hx
 rw [namedF_eq] at h3
 simp only [Bool.and_eq_true, decide_eq_true_eq] at h3
 unfold valuedF at h4
 simp only [Bool.and_eq_true, decide_eq_true_eq] at h4
 omega
end Go.Proofs.YtlhmdgaohonpbaaGreatDoor

namespace Go.Proofs.YtlhmdgaohonpbaaGreatDoor
open Go.RowKit Go.Proofs.YtlhmdgaohonpbaaGreatDoor.MapRaw
structure MoreX (w : World) (X X' : List Nat) : Prop where
 old : ∀ k ∈ X, k ∈ X'
 new : ∀ k ∈ X', k ∈ X ∨ w.heap.size ≤ k
theorem MoreX.refl (w : World) (X : List Nat) : MoreX w X X := ⟨fun _ h => h, fun _ h => .inl h⟩
theorem MoreX.trans {w w' : World} {X X' X'' : List Nat} (h : MoreX w X X') (k : MoreX w' X' X'') (hs : w.heap.size ≤ w'.heap.size) : MoreX w X X'' :=
 ⟨fun i hi => k.old i (h.old i hi), fun i hi => (k.new i hi).elim (h.new i) (fun h => .inr (Nat.le_trans hs h))⟩
theorem MoreX.out {w : World} {X X' : List Nat} (h : MoreX w X X') {k : Nat} (hk : k < w.heap.size) (hX : k ∉ X) : k ∉ X' := fun hm => (h.new k hm).elim hX (fun h => by omega)
def ixF (o : Option Nat) : Int := match o with | none => -1 | some i => i
structure NoTo {α : Type} (f : α → Bool) (l : List α) (k : Nat) : Prop where
 no : ∀ (j : Nat) (h : j < l.length), j < k → f l[j] = false
theorem NoTo.start {α : Type} (f : α → Bool) (l : List α) : NoTo f l 0 := ⟨fun _ _ h => by omega⟩
theorem NoTo.round {α : Type} {f : α → Bool} {l : List α} {k : Nat} (h : NoTo f l k) (hk : k < l.length) : (f l[k] = true ∧ l.findIdx? f = some k) ∨ (f l[k] = false ∧ NoTo f l (k + 1)) := by
 cases hf : f l[k] with
 | true => exact .inl ⟨rfl, List.findIdx?_eq_some_iff_getElem.2 ⟨hk, hf, fun j hj => by simp [h.no j (by omega) hj]⟩⟩
 | false =>
  refine .inr ⟨rfl, ⟨fun j hj hlt => ?_⟩⟩
  by_cases e : j = k
  ·subst e; exact hf
  ·exact h.no j hj (by omega)
theorem NoTo.done {α : Type} {f : α → Bool} {l : List α} {k : Nat} (h : NoTo f l k) (hk : ¬ k < l.length) : l.findIdx? f = none :=
 List.findIdx?_eq_none_iff.2 fun x hx => by
  obtain ⟨i, hi, e⟩ := List.getElem_of_mem hx
  rw [← e]; exact h.no i hi (by omega)
theorem lab_same {D D' : Nat → Prop} {v v' : Value} {l l' : List Lb} (w : World) (h : SlL w D v l) (h' : SlL w D' v' l') : ∀ W, Below w.heap.size w W → Calls Tryz.prog 14 #[v, v'] W fun e w' => e = .returned (.bool (decide (l = l'))) ∧ Below W.heap.size W w' := by
 obtain ⟨A, c, rfl, p1, p2, -, -, p5⟩ := h
 obtain ⟨A', c', rfl, q1, q2, -, -, q5⟩ := h'
 intro W hW
 exact ref05_same A A' c c' l l' W (Rd.below p5 hW) (Rd.below q5 hW) (by omega) (by omega)
end Go.Proofs.YtlhmdgaohonpbaaGreatDoor
