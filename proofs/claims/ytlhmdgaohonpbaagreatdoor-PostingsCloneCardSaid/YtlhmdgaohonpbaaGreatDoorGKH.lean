import Derived.Test.YtlhmdgaohonpbaaGreatDoorGKG
import Derived.Test.YtlhmdgaohonpbaaGreatDoorGRvB
import Derived.Test.YtlhmdgaohonpbaaGreatDoorGRm
import Derived.Deep.RegionLaw
import Derived.Test.YtlhmdgaohonpbaaGreatDoorGNuA
import Derived.Test.YtlhmdgaohonpbaaGreatDoorGYx
import Derived.Test.YtlhmdgaohonpbaaGreatDoorGPi
set_option linter.unusedSimpArgs false
set_option linter.unusedVariables false
set_option linter.unusedSectionVars false
namespace Go.Proofs.YtlhmdgaohonpbaaGreatDoor
open Go.RowKit Go.Proofs.YtlhmdgaohonpbaaGreatDoor.MapRaw Go.ChangeMaps
theorem below_eq {w w' : World} (h : w' = w) : Below w.heap.size w w' := by rw [h]; exact Below.refl _ _
set_option maxRecDepth 100000 in
set_option maxHeartbeats 2000000 in
theorem k7_check (m : Mt) (w : World) (hz : SzM m) :
  Calls Tryz.prog 35 #[.agg #[.int .i64 m.kind, .string m.n, .string m.v]] w fun e w' => e = .returned (.int .i64 (checkM m)) ∧ Below w.heap.size w w' := by
 obtain ⟨kind, mn, mv⟩ := m
 have HNm := Lib.hid fun (W : World) => ref_named mn W hz.1
 have HVl := Lib.hid fun (W : World) (hW : Below w.heap.size w W) => ref_valued2 mv W hz.2
 have HPr := Lib.hid fun (W : World) => k_check mv W
 have HCk : Hid (checkM ⟨kind, mn, mv⟩ = if kind < 1 ∨ 4 < kind then 70 else if namedF mn = false then 50 else if valuedF mv = false then 51 else if kind < 3 then 0 else rexE mv) := Lib.hid rfl
 generalize checkM ⟨kind, mn, mv⟩ = res at *
 have HB0 : Hid (Below w.heap.size w (w.alloc (.cells #[.int .i64 kind, .string mn, .string mv] 68))) := Lib.hid (balloc (Below.refl _ _) _)
 have x1 : (w.alloc (.cells #[.int .i64 kind, .string mn, .string mv] 68)).cell? ⟨w.heap.size, 1, none⟩ = some (.string mn) := by simp
 have x2 : (w.alloc (.cells #[.int .i64 kind, .string mn, .string mv] 68)).cell? ⟨w.heap.size, 2, none⟩ = some (.string mv) := by simp
 have x0 : (w.alloc (.cells #[.int .i64 kind, .string mn, .string mv] 68)).cell? ⟨w.heap.size, 0, none⟩ = some (.int .i64 kind) := by simp
 clear hz
 by_cases h1 : kind < 1
 ·have e1 : decide (kind < 1) = true := decide_eq_true h1
  have hr : res = 70 := by rw [HCk.out, if_pos (.inl h1)]
  have HR := Lib.hid hr
  clear h1 hr x0 x1 x2
  go_enter Tryz.func35, Tryz.ntmps35
  go_wp2_with fail
  go_ret
  exact ⟨by rw [HR.out]; rfl, HB0.out⟩
 ·have e1 : decide (kind < 1) = false := decide_eq_false h1
  by_cases h4 : 4 < kind
  ·have e4 : decide (kind > 4) = true := decide_eq_true h4
   have e4' : decide (4 < kind) = true := decide_eq_true h4
   have hr : res = 70 := by rw [HCk.out, if_pos (.inr h4)]
   have HR := Lib.hid hr
   clear h1 h4 hr x0 x1 x2
   go_enter Tryz.func35, Tryz.ntmps35
   go_wp2_with fail
   go_ret
   exact ⟨by rw [HR.out]; rfl, HB0.out⟩
  ·have e4 : decide (kind > 4) = false := decide_eq_false h4
   have e4' : decide (4 < kind) = false := decide_eq_false h4
   have hk := HCk.out
   rw [if_neg (by omega)] at hk
   cases hn : namedF mn with
   | false =>
    rw [hn, if_pos rfl] at hk
    rw [hn] at HNm
    have HR := Lib.hid hk
    clear h1 h4 hk hn HCk
    go_enter Tryz.func35, Tryz.ntmps35
    go_wp2_with fail
    refine (HNm.out _).mono ?_
    rintro e w1 ⟨rfl, hw⟩; have hb1 := below_eq hw; clear hw
    have HB1 := Lib.hid (bthen HB0.out hb1)
    clear hb1
    go_wp2_with fail
    go_ret
    exact ⟨by rw [HR.out]; rfl, HB1.out⟩
   | true =>
    rw [hn, if_neg (by decide)] at hk
    rw [hn] at HNm
    cases hv : valuedF mv with
    | false =>
     rw [hv, if_pos rfl] at hk
     rw [hv] at HVl
     have HR := Lib.hid hk
     clear h1 h4 hk hn hv HCk
     go_enter Tryz.func35, Tryz.ntmps35
     go_wp2_with fail
     generalize w.alloc (.cells #[.int .i64 kind, .string mn, .string mv] 68) = w0 at *
     refine (HNm.out _).mono ?_
     rintro e w1 ⟨rfl, hw⟩; have hb1 := below_eq hw; clear hw
     have HB1 := Lib.hid (bthen HB0.out hb1)
     have y2 := later hb1 x2
     clear hb1
     go_wp2_with fail
     refine (HVl.out _ HB1.out).mono ?_
     rintro e w2 ⟨rfl, hb2⟩
     have HB2 := Lib.hid (bthen HB1.out hb2)
     clear hb2
     go_wp2_with fail
     go_ret
     exact ⟨by rw [HR.out]; rfl, HB2.out⟩
    | true =>
     rw [hv, if_neg (by decide)] at hk
     rw [hv] at HVl
     by_cases h3 : kind < 3
     ·have e3 : (kind == 3) = false := by simp; omega
      have e3' : (kind == 4) = false := by simp; omega
      rw [if_pos h3] at hk
      have HR := Lib.hid hk
      clear h1 h4 hk hn hv HCk h3
      go_enter Tryz.func35, Tryz.ntmps35
      go_wp2_with fail
      generalize w.alloc (.cells #[.int .i64 kind, .string mn, .string mv] 68) = w0 at *
      refine (HNm.out _).mono ?_
      rintro e w1 ⟨rfl, hw⟩; have hb1 := below_eq hw; clear hw
      have HB1 := Lib.hid (bthen HB0.out hb1)
      have y2 := later hb1 x2
      have y0 := later hb1 x0
      clear hb1
      go_wp2_with fail
      refine (HVl.out _ HB1.out).mono ?_
      rintro e w2 ⟨rfl, hb2⟩
      have HB2 := Lib.hid (bthen HB1.out hb2)
      have z0 := later hb2 y0
      clear hb2
      go_wp2_with fail
      go_ret
      exact ⟨by rw [HR.out]; rfl, HB2.out⟩
     ·rw [if_neg h3, ← parse_same] at hk
      have HR := Lib.hid hk
      by_cases h33 : kind = 3
      ·have e3 : (kind == 3) = true := by simp [h33]
       clear h1 h4 hk hn hv HCk h3 h33
       go_enter Tryz.func35, Tryz.ntmps35
       go_wp2_with fail
       generalize w.alloc (.cells #[.int .i64 kind, .string mn, .string mv] 68) = w0 at *
       refine (HNm.out _).mono ?_
       rintro e w1 ⟨rfl, hw⟩; have hb1 := below_eq hw; clear hw
       have HB1 := Lib.hid (bthen HB0.out hb1)
       have y2 := later hb1 x2
       have y0 := later hb1 x0
       clear hb1
       go_wp2_with fail
       refine (HVl.out _ HB1.out).mono ?_
       rintro e w2 ⟨rfl, hb2⟩
       have HB2 := Lib.hid (bthen HB1.out hb2)
       have z0 := later hb2 y0
       have z2 := later hb2 y2
       clear hb2
       go_wp2_with fail
       refine (HPr.out _).mono ?_
       rintro e w3 ⟨rfl, hb3⟩
       have HB3 := Lib.hid (bthen HB2.out hb3)
       clear hb3
       go_wp2_with fail
       go_ret
       exact ⟨by rw [HR.out]; rfl, HB3.out⟩
      ·have e3 : (kind == 3) = false := by simp [h33]
       have e3' : (kind == 4) = true := by simp; omega
       clear h1 h4 hk hn hv HCk h3 h33
       go_enter Tryz.func35, Tryz.ntmps35
       go_wp2_with fail
       generalize w.alloc (.cells #[.int .i64 kind, .string mn, .string mv] 68) = w0 at *
       refine (HNm.out _).mono ?_
       rintro e w1 ⟨rfl, hw⟩; have hb1 := below_eq hw; clear hw
       have HB1 := Lib.hid (bthen HB0.out hb1)
       have y2 := later hb1 x2
       have y0 := later hb1 x0
       clear hb1
       go_wp2_with fail
       refine (HVl.out _ HB1.out).mono ?_
       rintro e w2 ⟨rfl, hb2⟩
       have HB2 := Lib.hid (bthen HB1.out hb2)
       have z0 := later hb2 y0
       have z2 := later hb2 y2
       clear hb2
       go_wp2_with fail
       refine (HPr.out _).mono ?_
       rintro e w3 ⟨rfl, hb3⟩
       have HB3 := Lib.hid (bthen HB2.out hb3)
       clear hb3
       go_wp2_with fail
       go_ret
       exact ⟨by rw [HR.out]; rfl, HB3.out⟩
def oneM (m : Mt) (v : ByteArray) : Bool := decide (checkM m = 0) && passF m v
theorem check_kind {m : Mt} (h : checkM m = 0) : 1 ≤ m.kind ∧ m.kind ≤ 4 := by
 unfold checkM at h
 by_cases h1 : m.kind < 1 ∨ 4 < m.kind
 ·rw [if_pos h1] at h; cases h
 ·omega
set_option maxRecDepth 100000 in
set_option maxHeartbeats 2000000 in
theorem k7_one (m : Mt) (s : ByteArray) (w : World) (hz : SzM m) (hs : s.size ≤ 1000000) :
  Calls Tryz.prog 59 #[.agg #[.int .i64 m.kind, .string m.n, .string m.v], .string s] w fun e w' => e = .returned (.bool (oneM m s)) ∧ Below w.heap.size w w' := by
 have HCk := Lib.hid fun (W : World) => k7_check m W hz
 have HFl := Lib.hid fun (W : World) => k_full m.v s W hs
 have HOne : Hid (oneM m s = (decide (checkM m = 0) && passF m s)) := Lib.hid rfl
 have HPs : Hid (passF m s = if m.kind = 1 then s.toList == m.v.toList else if m.kind = 2 then s.toList != m.v.toList else if m.kind = 3 then rexB m.v s else if m.kind = 4 then !rexB m.v s else false) := Lib.hid rfl
 have HKd := Lib.hid (fun h => check_kind (m := m) h)
 generalize oneM m s = res at *
 generalize passF m s = pa at *
 generalize rexB m.v s = rm at *
 generalize checkM m = ce at *
 obtain ⟨kind, mn, mv⟩ := m
 simp only at *
 have HB0 : Hid (Below w.heap.size w (w.alloc (.cells #[.int .i64 kind, .string mn, .string mv] 68))) := Lib.hid (balloc (Below.refl _ _) _)
 have x0 : (w.alloc (.cells #[.int .i64 kind, .string mn, .string mv] 68)).cell? ⟨w.heap.size, 0, none⟩ = some (.int .i64 kind) := by simp
 have x2 : (w.alloc (.cells #[.int .i64 kind, .string mn, .string mv] 68)).cell? ⟨w.heap.size, 2, none⟩ = some (.string mv) := by simp
 by_cases h0 : ce = 0
 ·have ec : (ce != 0) = false := by simp [h0]
  have hk := HKd.out h0
  have HR : Hid (res = pa) := Lib.hid (by rw [HOne.out, decide_eq_true h0]; rfl)
  clear h0
  by_cases h1 : kind = 1
  ·have e1 : (kind == 1) = true := by simpa using h1
   have HR2 : Hid (res = (s.toList == mv.toList)) := Lib.hid (by rw [HR.out, HPs.out, if_pos h1])
   clear h1 hk HKd
   go_enter Tryz.func59, Tryz.ntmps59
   go_wp2_with fail
   generalize w.alloc (.cells #[.int .i64 kind, .string mn, .string mv] 68) = w0 at *
   refine (HCk.out _).mono ?_
   rintro e w1 ⟨rfl, hb1⟩
   have HB1 := Lib.hid (bthen HB0.out hb1)
   have y0 := later hb1 x0
   have y2 := later hb1 x2
   clear hb1
   go_wp2_with fail
   go_ret
   exact ⟨ret_bool HR2.out.symm, HB1.out⟩
  ·have e1 : (kind == 1) = false := by simpa using h1
   by_cases h2 : kind = 2
   ·have e2 : (kind == 2) = true := by simpa using h2
    have HR2 : Hid (res = (s.toList != mv.toList)) := Lib.hid (by rw [HR.out, HPs.out, if_neg h1, if_pos h2])
    clear h1 h2 hk HKd
    go_enter Tryz.func59, Tryz.ntmps59
    go_wp2_with fail
    generalize w.alloc (.cells #[.int .i64 kind, .string mn, .string mv] 68) = w0 at *
    refine (HCk.out _).mono ?_
    rintro e w1 ⟨rfl, hb1⟩
    have HB1 := Lib.hid (bthen HB0.out hb1)
    have y0 := later hb1 x0
    have y2 := later hb1 x2
    clear hb1
    go_wp2_with fail
    go_ret
    exact ⟨ret_bool HR2.out.symm, HB1.out⟩
   ·have e2 : (kind == 2) = false := by simpa using h2
    by_cases h3 : kind = 3
    ·have e3 : (kind == 3) = true := by simpa using h3
     have HR2 : Hid (res = rm) := Lib.hid (by rw [HR.out, HPs.out, if_neg h1, if_neg h2, if_pos h3])
     clear h1 h2 h3 hk HKd
     go_enter Tryz.func59, Tryz.ntmps59
     go_wp2_with fail
     generalize w.alloc (.cells #[.int .i64 kind, .string mn, .string mv] 68) = w0 at *
     refine (HCk.out _).mono ?_
     rintro e w1 ⟨rfl, hb1⟩
     have HB1 := Lib.hid (bthen HB0.out hb1)
     have y0 := later hb1 x0
     have y2 := later hb1 x2
     clear hb1
     go_wp2_with fail
     refine (HFl.out _).mono ?_
     rintro e w2 ⟨rfl, hb2⟩
     have HB2 := Lib.hid (bthen HB1.out hb2)
     clear hb2
     go_wp2_with fail
     go_ret
     exact ⟨ret_bool HR2.out.symm, HB2.out⟩
    ·have e3 : (kind == 3) = false := by simpa using h3
     have HR2 : Hid (res = !rm) := Lib.hid (by rw [HR.out, HPs.out, if_neg h1, if_neg h2, if_neg h3, if_pos (by omega)])
     clear h1 h2 h3 hk HKd
     go_enter Tryz.func59, Tryz.ntmps59
     go_wp2_with fail
     generalize w.alloc (.cells #[.int .i64 kind, .string mn, .string mv] 68) = w0 at *
     refine (HCk.out _).mono ?_
     rintro e w1 ⟨rfl, hb1⟩
     have HB1 := Lib.hid (bthen HB0.out hb1)
     have y0 := later hb1 x0
     have y2 := later hb1 x2
     clear hb1
     go_wp2_with fail
     refine (HFl.out _).mono ?_
     rintro e w2 ⟨rfl, hb2⟩
     have HB2 := Lib.hid (bthen HB1.out hb2)
     clear hb2
     go_wp2_with fail
     go_ret
     exact ⟨ret_bool HR2.out.symm, HB2.out⟩
 ·have ec : (ce != 0) = true := by simp [h0]
  have HR2 : Hid (res = false) := Lib.hid (by rw [HOne.out, decide_eq_false h0]; rfl)
  clear h0 HKd
  go_enter Tryz.func59, Tryz.ntmps59
  go_wp2_with fail
  refine (HCk.out _).mono ?_
  rintro e w1 ⟨rfl, hb1⟩
  have HB1 := Lib.hid (bthen HB0.out hb1)
  clear hb1
  go_wp2_with fail
  go_ret
  exact ⟨ret_bool HR2.out.symm, HB1.out⟩
end Go.Proofs.YtlhmdgaohonpbaaGreatDoor

namespace Go.Proofs.YtlhmdgaohonpbaaGreatDoor
open Go.RowKit Go.Proofs.YtlhmdgaohonpbaaGreatDoor.MapRaw Go.ChangeMaps
set_option maxRecDepth 100000 in
set_option maxHeartbeats 1000000 in
theorem k5_get {D : Nat → Prop} (v : Value) (l : List Lb) (name : ByteArray) (w : World) (hv : SlL w D v l) :
  Calls Tryz.prog 77 #[v, .string name] w fun e w' => e = .returned (.string (valL l name)) ∧ Below w.heap.size w w' := by
 obtain ⟨A, c, rfl, p1, p2, -, -, p5⟩ := hv
 have HR := Lib.hid p5
 have hm9 : l.length ≤ 9223372036854775807 := by simp only [maxLen] at p2; omega
 have HV0 : Hid (valL (l.drop 0) name = valL l name) := Lib.hid (by rw [List.drop_zero])
 generalize valL l name = res at *
 obtain ⟨m, hm⟩ : ∃ m, m = l.length := ⟨_, rfl⟩
 have Hm := Lib.hid hm
 rw [← hm] at hm9 ⊢
 clear p1 p2 p5 hm
 go_enter Tryz.func77, Tryz.ntmps77
 go_wp2
 go_loopw [9] (fun i wr => ∃ k : Nat, k ≤ m ∧ i = .int .i64 k ∧ valL (l.drop k) name = res ∧ Below w.heap.size w wr) (fun i _ => m - (intOf i).toNat)
 case atStart => exact ⟨0, Nat.zero_le _, rfl, HV0.out, Below.refl _ _⟩
 case round =>
  obtain ⟨k, hk, rfl, hE, hB⟩ := hrel
  have HBr := Lib.hid hB
  by_cases hlt : k < m
  ·have hkl : k < l.length := by rw [← Hm.out]; exact hlt
   obtain ⟨b, off, rfl, z0, z1⟩ := RdL.at_ (Rd.below HR.out hB) hkl
   rw [val_drop l name k hkl] at hE
   generalize l[k] = x at *
   obtain ⟨xn, xv⟩ := x
   simp only at z0 z1 hE
   have HBw := Lib.hid (bthen hB (balloc (Below.refl wr.heap.size wr) (.cells #[.string xn, .string xv] 80)))
   cases he : (xn.toList == name.toList) with
   | true =>
    rw [he, if_pos rfl] at hE
    have HE := Lib.hid hE
    have he2 := he
    clear hE hB
    go_wp2_with fail
    go_ret
    exact ⟨ret_str HE.out, HBw.out⟩
   | false =>
    rw [he, if_neg (by decide)] at hE
    have HE := Lib.hid hE
    clear hE hB
    go_wp2_with fail
    go_roundw
    case rel => exact ⟨k + 1, by omega, by go_num, HE.out, HBw.out⟩
    case measure => simp [intOf] <;> omega
  ·have hkm : l.drop k = [] := List.drop_of_length_le (by rw [← Hm.out]; omega)
   rw [hkm] at hE
   have HE := Lib.hid hE
   clear hE hB hkm
   go_wp2_with fail
   go_ret
   exact ⟨ret_str HE.out, HBr.out⟩
theorem err_all {l : List Mt} (h : errM l = 0) : ∀ x ∈ l, checkM x = 0 := by
 induction l with
 | nil => intro x hx; simp at hx
 | cons m l ih =>
  unfold errM at h
  by_cases h1 : checkM m ≠ 0
  ·rw [if_pos h1] at h; exact (h1 h).elim
  ·rw [if_neg h1] at h
   intro x hx
   rcases List.mem_cons.1 hx with rfl | hx
   ·exact Decidable.not_not.1 h1
   ·exact ih h x hx
theorem ready_all {l : List Mt} (h : readyE l = 0) : ∀ x ∈ l, checkM x = 0 := by
 unfold readyE at h
 split at h
 ·cases h
 ·split at h
  ·next h1 => exact (h1 h).elim
  ·next h1 => exact err_all (Decidable.not_not.1 h1)
set_option maxRecDepth 100000 in
set_option maxHeartbeats 4000000 in
theorem k7_right {D : Nat → Prop} (v : Value) (l : List Mt) (w : World) (hv : Slc 3 Mt.enc w D v l) (hz : ∀ x ∈ l, SzM x) :
  Calls Tryz.prog 33 #[v] w fun e w' => e = .returned (.int .i64 (readyE l)) ∧ Below w.heap.size w w' := by
 obtain ⟨A, c, rfl, p1, p2, -, -, p5⟩ := hv
 have HRd := Lib.hid fun (W : World) (hW : Below w.heap.size w W) => Rd.below p5 hW
 have HChk := Lib.hid fun (x : Mt) (hx : x ∈ l) (W : World) => k7_check x W (hz x hx)
 have HOne := Lib.hid fun (x : Mt) (hx : x ∈ l) (W : World) => k7_one x ⟨#[]⟩ W (hz x hx) (Nat.zero_le _)
 have hm9 : l.length ≤ 9223372036854775807 := by simp only [maxLen] at p2; omega
 obtain ⟨m, hm⟩ : ∃ m, m = l.length := ⟨_, rfl⟩
 have Hm := Lib.hid hm
 rw [← hm] at hm9 ⊢
 clear p1 p2 p5 hz hm
 by_cases h16 : 16 < m
 ·have e16 : decide ((m : Int) > 16) = true := decide_eq_true (by omega)
  have e16' : decide ((16 : Int) < (m : Int)) = true := decide_eq_true (by omega)
  have HRe : Hid (readyE l = 3) := Lib.hid (by unfold readyE; rw [if_pos (by rw [← Hm.out]; exact h16)])
  clear h16
  go_enter Tryz.func33, Tryz.ntmps33
  go_wp2_with fail
  go_ret
  exact ⟨by rw [HRe.out]; rfl, Below.refl _ _⟩
 ·have e16 : decide ((m : Int) > 16) = false := decide_eq_false (by omega)
  have e16' : decide ((16 : Int) < (m : Int)) = false := decide_eq_false (by omega)
  have HRe : Hid (readyE l = if errM l ≠ 0 then errM l else if strictF l = true then 0 else 71) := Lib.hid (by unfold readyE; rw [if_neg (by rw [← Hm.out]; exact h16)])
  generalize hre : readyE l = re at *
  have HRq := Lib.hid hre
  clear h16 hre
  go_enter Tryz.func33, Tryz.ntmps33
  go_wp2_with fail
  go_loopw [3, 12] (fun sv i wr => ∃ k : Nat, k ≤ m ∧ i = .int .i64 k ∧ sv = .bool (strictF (l.take k)) ∧ (∀ x ∈ l.take k, checkM x = 0) ∧ Below w.heap.size w wr) (fun _ i _ => m - (intOf i).toNat)
  case atStart => exact ⟨0, Nat.zero_le _, rfl, rfl, fun x hx => by simp at hx, Below.refl _ _⟩
  case round =>
   obtain ⟨k, hk, rfl, rfl, hok, hB⟩ := hrel
   have HBr := Lib.hid hB
   by_cases hlt : k < m
   ·have hkl : k < l.length := by rw [← Hm.out]; exact hlt
    obtain ⟨b, off, e1, hzc⟩ := (HRd.out wr hB) k l[k] (List.getElem?_eq_getElem hkl)
    subst e1
    have z0 := hzc 0 _ rfl
    have z1 := hzc 1 _ rfl
    have z2 := hzc 2 _ rfl
    simp only [Nat.add_zero] at z0 z1 z2
    have HStep := Lib.hid (err_take l k hkl hok)
    have HSt : Hid (strictF (l.take (k + 1)) = (strictF (l.take k) || !passF l[k] ⟨#[]⟩)) := Lib.hid (any_take _ l k hkl)
    have HCk := Lib.hid (fun W => HChk.out l[k] (List.getElem_mem hkl) W)
    have HOn := Lib.hid (fun W => HOne.out l[k] (List.getElem_mem hkl) W)
    clear hzc hok
    generalize l[k] = x at *
    clear hkl
    have HOx : Hid (oneM x ⟨#[]⟩ = (decide (checkM x = 0) && passF x ⟨#[]⟩)) := Lib.hid rfl
    generalize oneM x ⟨#[]⟩ = ox at *
    generalize passF x ⟨#[]⟩ = px at *
    generalize checkM x = ce at *
    obtain ⟨kind, mn, mv⟩ := x
    simp only at z0 z1 z2 HCk HOn
    have x0 : (wr.alloc (.cells #[.int .i64 kind, .string mn, .string mv] 68)).cell? ⟨wr.heap.size, 0, none⟩ = some (.int .i64 kind) := by simp
    have x1 : (wr.alloc (.cells #[.int .i64 kind, .string mn, .string mv] 68)).cell? ⟨wr.heap.size, 1, none⟩ = some (.string mn) := by simp
    have x2 : (wr.alloc (.cells #[.int .i64 kind, .string mn, .string mv] 68)).cell? ⟨wr.heap.size, 2, none⟩ = some (.string mv) := by simp
    have HBw := Lib.hid (bthen hB (balloc (Below.refl wr.heap.size wr) (.cells #[.int .i64 kind, .string mn, .string mv] 68)))
    clear hB
    go_wp2_with fail
    refine (HCk.out _).mono ?_
    rintro e w1 ⟨rfl, hb1⟩
    have HB1 := Lib.hid (bthen HBw.out hb1)
    have y0 := later hb1 x0
    have y1 := later hb1 x1
    have y2 := later hb1 x2
    clear hb1 x0 x1 x2 z0 z1 z2
    by_cases h0 : ce = 0
    ·have ec : (ce != 0) = false := by simp [h0]
     have HOk2 := Lib.hid (HStep.out.2 h0)
     have HOp : Hid (ox = px) := Lib.hid (by rw [HOx.out, decide_eq_true h0]; rfl)
     clear h0
     cases hst : strictF (l.take k) with
     | true =>
      have HFin : Hid (Value.bool true = .bool (strictF (l.take (k + 1)))) := Lib.hid (by rw [HSt.out, hst]; rfl)
      clear hst
      go_wp2_with fail
      go_roundw
      case rel => exact ⟨k + 1, by omega, by go_num, HFin.out, HOk2.out, HB1.out⟩
      case measure => simp [intOf] <;> omega
     | false =>
      have HFin : Hid (Value.bool (!ox) = .bool (strictF (l.take (k + 1)))) := Lib.hid (by rw [HSt.out, hst, HOp.out]; simp)
      clear hst
      go_wp2_with fail
      refine (HOn.out _).mono ?_
      rintro e w2 ⟨rfl, hb2⟩
      have HB2 := Lib.hid (bthen HB1.out hb2)
      clear hb2
      go_wp2_with fail
      go_roundw
      case rel => exact ⟨k + 1, by omega, by go_num, HFin.out, HOk2.out, HB2.out⟩
      case measure => simp [intOf] <;> omega
    ·have ec : (ce != 0) = true := by simp [h0]
     have HErr : Hid (re = ce) := Lib.hid (by rw [HRe.out, HStep.out.1 h0, if_pos h0])
     clear h0
     go_wp2_with fail
     go_ret
     exact ⟨by rw [HErr.out]; rfl, HB1.out⟩
   ·have hkm : l.take k = l := List.take_of_length_le (by rw [← Hm.out]; omega)
    rw [hkm] at hok
    have herr : errM l = 0 := err_zero l hok
    have HRe2 : Hid (re = if strictF l = true then 0 else 71) := Lib.hid (by rw [HRe.out, if_neg (by simp [herr])])
    rw [hkm]
    clear hok hkm herr hB
    cases hst : strictF l with
    | true =>
     have HZ : Hid (re = 0) := Lib.hid (by rw [HRe2.out, if_pos hst])
     clear hst
     go_wp2_with fail
     go_ret
     exact ⟨by rw [HZ.out]; rfl, HBr.out⟩
    | false =>
     have HZ : Hid (re = 71) := Lib.hid (by rw [HRe2.out, if_neg (by rw [hst]; decide)])
     clear hst
     go_wp2_with fail
     go_ret
     exact ⟨by rw [HZ.out]; rfl, HBr.out⟩
def allM (ml : List Mt) (l : List Lb) : Bool := decide (readyE ml = 0) && passL ml l
theorem all_take {α : Type} (f : α → Bool) (l : List α) (k : Nat) (hk : k < l.length) : (l.take (k + 1)).all f = ((l.take k).all f && f l[k]) := by
 rw [List.take_succ_eq_append_getElem hk, List.all_append]
 simp
set_option maxRecDepth 100000 in
set_option maxHeartbeats 4000000 in
theorem k7_all {D D1 : Nat → Prop} (v lv : Value) (ml : List Mt) (l : List Lb) (w : World) (hv : Slc 3 Mt.enc w D v ml) (hz : ∀ x ∈ ml, SzM x) (hl : SlL w D1 lv l) (hsz : ∀ x ∈ l, x.v.size ≤ 1000000) :
  Calls Tryz.prog 53 #[v, lv] w fun e w' => e = .returned (.bool (allM ml l)) ∧ Below w.heap.size w w' := by
 have HRt := Lib.hid (k7_right v ml w hv hz)
 obtain ⟨A, c, rfl, p1, p2, -, -, p5⟩ := hv
 have HRd := Lib.hid fun (W : World) (hW : Below w.heap.size w W) => Rd.below p5 hW
 have HGet := Lib.hid fun (name : ByteArray) (W : World) (hW : Below w.heap.size w W) => k5_get lv l name W (hl.below hW)
 have HOne := Lib.hid fun (x : Mt) (hx : x ∈ ml) (name : ByteArray) (W : World) => k7_one x (valL l name) W (hz x hx) (val_size hsz)
 have hm9 : ml.length ≤ 9223372036854775807 := by simp only [maxLen] at p2; omega
 have HAll : Hid (allM ml l = (decide (readyE ml = 0) && passL ml l)) := Lib.hid rfl
 have HReady := Lib.hid (fun h => ready_all (l := ml) h)
 have HPs : Hid (passL ml l = ml.all fun x => passF x (valL l x.n)) := Lib.hid rfl
 generalize allM ml l = res at *
 generalize passL ml l = pl at *
 generalize readyE ml = re at *
 obtain ⟨m, hm⟩ : ∃ m, m = ml.length := ⟨_, rfl⟩
 have Hm := Lib.hid hm
 rw [← hm] at hm9 HRt ⊢
 obtain ⟨A3, c3, rfl, -⟩ := hl
 generalize l.length = nl at *
 clear p1 p2 p5 hm hz hsz
 by_cases h0 : re = 0
 ·have ec : (re != 0) = false := by simp [h0]
  have HCk := Lib.hid (HReady.out h0)
  have HR : Hid (res = ml.all fun x => passF x (valL l x.n)) := Lib.hid (by rw [HAll.out, decide_eq_true h0, HPs.out]; rfl)
  clear h0
  go_enter Tryz.func53, Tryz.ntmps53
  go_wp2_with fail
  refine HRt.out.mono ?_
  rintro e w1 ⟨rfl, hb1⟩
  have HB1 := Lib.hid hb1
  clear hb1
  go_wp2_with fail
  go_loopw [12] (fun i wr => ∃ k : Nat, k ≤ m ∧ i = .int .i64 k ∧ ((ml.take k).all fun x => passF x (valL l x.n)) = true ∧ Below w.heap.size w wr) (fun i _ => m - (intOf i).toNat)
  case atStart => exact ⟨0, Nat.zero_le _, rfl, rfl, HB1.out⟩
  case round =>
   obtain ⟨k, hk, rfl, hok, hB⟩ := hrel
   have HBr := Lib.hid hB
   by_cases hlt : k < m
   ·have hkl : k < ml.length := by rw [← Hm.out]; exact hlt
    obtain ⟨b, off, e1, hzc⟩ := (HRd.out wr hB) k ml[k] (List.getElem?_eq_getElem hkl)
    cases e1
    have z0 := hzc 0 _ rfl
    have z1 := hzc 1 _ rfl
    have z2 := hzc 2 _ rfl
    simp only [Nat.add_zero] at z0 z1 z2
    have HNext : Hid (((ml.take (k + 1)).all fun x => passF x (valL l x.n)) = passF ml[k] (valL l ml[k].n)) := Lib.hid (by rw [all_take _ ml k hkl, hok]; rfl)
    have HNo : Hid (passF ml[k] (valL l ml[k].n) = false → res = false) := Lib.hid (fun h => by rw [HR.out]; exact List.all_eq_false.2 ⟨ml[k], List.getElem_mem hkl, by simp [h]⟩)
    have HOn := Lib.hid (fun name W => HOne.out ml[k] (List.getElem_mem hkl) name W)
    have hck := HCk.out ml[k] (List.getElem_mem hkl)
    clear hzc hok
    generalize ml[k] = x at *
    clear hkl
    have HOx : Hid (oneM x (valL l x.n) = passF x (valL l x.n)) := Lib.hid (by unfold oneM; rw [decide_eq_true hck]; rfl)
    obtain ⟨kind, mn, mv⟩ := x
    simp only at z0 z1 z2 HOn HOx HNo HNext
    have HOm := Lib.hid (HOn.out mn)
    have HGt := Lib.hid (HGet.out mn)
    generalize valL l mn = vm at *
    generalize passF ⟨kind, mn, mv⟩ vm = px at *
    generalize oneM ⟨kind, mn, mv⟩ vm = ox at *
    have hox := HOx.out
    subst hox
    have HBw := Lib.hid (bthen hB (balloc (Below.refl wr.heap.size wr) (.cells #[.int .i64 kind, .string mn, .string mv] 68)))
    have x0 : (wr.alloc (.cells #[.int .i64 kind, .string mn, .string mv] 68)).drew.cell? ⟨wr.heap.size, 0, none⟩ = some (.int .i64 kind) := by show (wr.alloc _).cell? _ = _; simp
    have x1 : (wr.alloc (.cells #[.int .i64 kind, .string mn, .string mv] 68)).drew.cell? ⟨wr.heap.size, 1, none⟩ = some (.string mn) := by show (wr.alloc _).cell? _ = _; simp
    have x2 : (wr.alloc (.cells #[.int .i64 kind, .string mn, .string mv] 68)).drew.cell? ⟨wr.heap.size, 2, none⟩ = some (.string mv) := by show (wr.alloc _).cell? _ = _; simp
    clear hB hck
    go_upto_region 6 with fail
    generalize wr.alloc (.cells #[.int .i64 kind, .string mn, .string mv] 68) = W5 at *
    have HBd := Lib.hid (bthen HBw.out (bdrew (Below.refl _ _)))
    clear z0 z1 z2
    go_region_law (first | (go_simp; go_at_call 59; refine (HOm.out w6).mono ?_; rintro e w7 ⟨rfl, hb7⟩) | (go_simp; go_at_call 77; refine (HGt.out _ HBd.out).mono ?_; rintro e w6 ⟨rfl, hb6⟩; have k0 := later hb6 x0; have k1 := later hb6 x1; have k2 := later hb6 x2))
    all_goals
     have HB7 := Lib.hid (bthen HBd.out (bthen hb6 hb7))
     clear hb6 hb7 k0 k1 k2 x0 x1 x2
     cases ox with
     | true =>
      go_wp2_with fail
      go_roundw
      case rel => exact ⟨k + 1, by omega, by go_num, HNext.out, HB7.out⟩
      case measure => simp [intOf] <;> omega
     | false =>
      have HF := Lib.hid (HNo.out rfl)
      go_wp2_with fail
      go_ret
      exact ⟨ret_bool HF.out.symm, HB7.out⟩
   ·have hkm : ml.take k = ml := List.take_of_length_le (by rw [← Hm.out]; omega)
    rw [hkm] at hok
    have HF : Hid (res = true) := Lib.hid (by rw [HR.out]; exact hok)
    clear hok hkm hB
    go_wp2_with fail
    go_ret
    exact ⟨ret_bool HF.out.symm, HBr.out⟩
 ·have ec : (re != 0) = true := by simp [h0]
  have HR : Hid (res = false) := Lib.hid (by rw [HAll.out, decide_eq_false h0]; rfl)
  clear h0
  go_enter Tryz.func53, Tryz.ntmps53
  go_wp2_with fail
  refine HRt.out.mono ?_
  rintro e w1 ⟨rfl, hb1⟩
  have HB1 := Lib.hid hb1
  clear hb1
  go_wp2_with fail
  go_ret
  exact ⟨ret_bool HR.out.symm, HB1.out⟩
end Go.Proofs.YtlhmdgaohonpbaaGreatDoor

namespace Go.Proofs.YtlhmdgaohonpbaaGreatDoor
open Go.RowKit Go.Proofs.YtlhmdgaohonpbaaGreatDoor.MapRaw Go.ChangeMaps
def docSel (ml : List Mt) (m : List Ser) (out : List Int) : List Int := m.foldl (fun o p => if passL ml p.2 = true then withF o p.1 else o) out
theorem docSel_spec (ml : List Mt) : ∀ (m : List Ser) (out : List Int), out.Pairwise (· < ·) → (docSel ml m out).Pairwise (· < ·) ∧ ∀ r, r ∈ docSel ml m out ↔ r ∈ out ∨ ∃ p ∈ m, p.1 = r ∧ passL ml p.2 = true
 | [], out, h => ⟨h, fun r => by simp [docSel]⟩
 | p :: m, out, h => by
  show (docSel ml m (if passL ml p.2 = true then withF out p.1 else out)).Pairwise _ ∧ _
  have hs : ∀ r, r ∈ docSel ml (p :: m) out ↔ r ∈ docSel ml m (if passL ml p.2 = true then withF out p.1 else out) := fun r => Iff.rfl
  by_cases hf : passL ml p.2 = true
  ·obtain ⟨h1, h2⟩ := with_spec h p.1
   obtain ⟨h3, h4⟩ := docSel_spec ml m _ h1
   refine ⟨by rw [if_pos hf]; exact h3, fun r => ?_⟩
   rw [hs, if_pos hf, h4, h2]
   constructor
   ·rintro ((h | rfl) | ⟨q, h5, h6⟩)
    ·exact .inl h
    ·exact .inr ⟨p, List.mem_cons_self .., rfl, hf⟩
    ·exact .inr ⟨q, List.mem_cons_of_mem _ h5, h6⟩
   ·rintro (h | ⟨q, h5, h6, h7⟩)
    ·exact .inl (.inl h)
    ·rcases List.mem_cons.1 h5 with rfl | h5
     ·exact .inl (.inr h6.symm)
     ·exact .inr ⟨q, h5, h6, h7⟩
  ·obtain ⟨h3, h4⟩ := docSel_spec ml m _ h
   refine ⟨by rw [if_neg hf]; exact h3, fun r => ?_⟩
   rw [hs, if_neg hf, h4]
   constructor
   ·rintro (h | ⟨q, h5, h6⟩)
    ·exact .inl h
    ·exact .inr ⟨q, List.mem_cons_of_mem _ h5, h6⟩
   ·rintro (h | ⟨q, h5, h6, h7⟩)
    ·exact .inl h
    ·rcases List.mem_cons.1 h5 with rfl | h5
     ·exact (hf h7).elim
     ·exact .inr ⟨q, h5, h6, h7⟩
def addIf (b : Bool) (o : List Int) (r : Int) : List Int := if b = true then withF o r else o
theorem docSel_take (ml : List Mt) (m : List Ser) (k : Nat) (hk : k < m.length) : docSel ml (m.take (k + 1)) [] = addIf (passL ml m[k].2) (docSel ml (m.take k) []) m[k].1 := by
 rw [List.take_succ_eq_append_getElem hk]
 unfold docSel
 rw [List.foldl_append]
 rfl
theorem docSel_len (ml : List Mt) : ∀ (m : List Ser) (out : List Int), (docSel ml m out).length ≤ out.length + m.length
 | [], out => by simp [docSel]
 | p :: m, out => by
  show (docSel ml m (if passL ml p.2 = true then withF out p.1 else out)).length ≤ _
  have h1 := docSel_len ml m (if passL ml p.2 = true then withF out p.1 else out)
  have h2 := with_len out p.1
  rw [List.length_cons]
  split at h1 <;> rename_i hc <;> first | rw [if_pos hc] | rw [if_neg hc]
  all_goals omega
theorem sel_doc {I : Ix} (hI : IxOk I) (ml : List Mt) : docSel ml I.all [] = selectF I ml := by
 have h1 := docSel_spec ml I.all [] List.Pairwise.nil
 have h2 : (selectF I ml).Pairwise (· < ·) := by
  have hn : (selectF I ml).Nodup := (sorted_perm _).nodup_iff.2 (selL_nodup hI.an ml)
  have hle := sorted_le (selL I ml)
  unfold selectF at hn ⊢
  exact (List.Pairwise.and hle hn).imp (fun h => by have := h.1; have := h.2; omega)
 refine strict_ext h1.1 h2 (fun r => ?_)
 rw [h1.2, mem_select hI]
 constructor
 ·rintro (h | ⟨p, h3, h4, h5⟩)
  ·simp at h
  ·exact ⟨p.2, by rw [← h4]; exact mget_of_mem hI.an h3, h5⟩
 ·rintro ⟨l, h3, h4⟩
  exact .inr ⟨(r, l), mget_mem h3, rfl, h4⟩
def DSelPost (w : World) (ml : List Mt) (m : List Ser) (e : Ending) (w' : World) : Prop :=
 (readyE ml = 0 ∧ ∃ v, e = .returned (.tuple #[v, .int .i64 0]) ∧ SlU w' (fun k => w.heap.size ≤ k) v (docSel ml m []) ∧ Below w.heap.size w w') ∨ (readyE ml ≠ 0 ∧ e = .returned (.tuple #[.slice none 0 0, .int .i64 (readyE ml)]) ∧ Below w.heap.size w w')
set_option maxRecDepth 100000 in
set_option maxHeartbeats 4000000 in
theorem k10_select {D D1 D2 : Nat → Prop} (yb : Nat) (yv : Value) (l : List Sx) (v : Value) (ml : List Mt) (w : World) (hc : w.cell? ⟨yb, 0, none⟩ = some yv) (hy : Slc 2 Sx.enc w D1 yv l) (hl : SxOk w D2 l) (hlen : l.length ≤ 900000) (hsz : ∀ x ∈ l, ∀ y ∈ x.lab, y.v.size ≤ 1000000)
  (hv : Slc 3 Mt.enc w D v ml) (hz : ∀ x ∈ ml, SzM x) :
  Calls Tryz.prog 23 #[.pointer (some ⟨yb, 0, none⟩), v] w (DSelPost w ml (l.map Sx.key)) := by
 have HRt := Lib.hid (k7_right v ml w hv hz)
 have HAll := Lib.hid fun (x : Sx) (hx : x ∈ l) (W : World) (hW : Below w.heap.size w W) => k7_all v x.lv ml x.lab W (hv.below hW) hz ((hl x hx).below hW) (hsz x hx)
 obtain ⟨A, c, rfl, p1, p2, -, -, p5⟩ := hy
 have HRd := Lib.hid fun (W : World) (hW : Below w.heap.size w W) => Rd.below p5 hW
 have HLv := Lib.hid hl
 have Hlen := Lib.hid hlen
 obtain ⟨n, hn⟩ : ∃ n, n = l.length := ⟨_, rfl⟩
 have Hn := Lib.hid hn
 have hm9 : n ≤ 9223372036854775807 := by omega
 rw [← hn] at hc
 obtain ⟨Am, cm, rfl, -⟩ := hv
 generalize hml : ml.length = nm at *
 by_cases h0 : readyE ml = 0
 ·have ec : (readyE ml != 0) = false := by simp [h0]
  have HPost : Hid (∀ (W : World) (v : Value), SlU W (fun k => w.heap.size ≤ k) v (docSel ml (l.map Sx.key) []) → Below w.heap.size w W → DSelPost w ml (l.map Sx.key) (.returned (.tuple #[v, .int .i64 0])) W) := Lib.hid (fun W v h1 h2 => .inl ⟨h0, v, rfl, h1, h2⟩)
  have HAllM : Hid (∀ lab, allM ml lab = passL ml lab) := Lib.hid (fun lab => by unfold allM; rw [decide_eq_true h0]; rfl)
  generalize readyE ml = re at *
  clear hl p1 p2 p5 hsz hz h0 hn hlen hml
  go_enter Tryz.func23, Tryz.ntmps23
  go_wp2_with fail
  refine HRt.out.mono ?_
  rintro e w1 ⟨rfl, hb1⟩
  have HB1 := Lib.hid hb1
  have c1 := later hb1 hc
  clear hb1 hc
  go_wp2_with fail
  go_loopw [7, 20] (fun ov i wr => ∃ k : Nat, k ≤ n ∧ i = .int .i64 k ∧ SlU wr (fun j => w.heap.size ≤ j) ov (docSel ml ((l.map Sx.key).take k) []) ∧ Below w.heap.size w wr) (fun _ i _ => n - (intOf i).toNat)
  case atStart => exact ⟨0, Nat.zero_le _, rfl, Slc.nil _ _ _ _, HB1.out⟩
  case round =>
   obtain ⟨k, hk, rfl, hO, hB⟩ := hrel
   have HBr := Lib.hid hB
   have HOr := Lib.hid hO
   by_cases hlt : k < n
   ·have hkl : k < l.length := by rw [← Hn.out]; exact hlt
    obtain ⟨b, off, e1, z0, z1⟩ := rdSx_at (HRd.out wr hB) hkl
    cases e1
    have HAl := Lib.hid (fun W hW => HAll.out l[k] (List.getElem_mem hkl) W hW)
    have hx := HLv.out _ (List.getElem_mem hkl)
    have hst := docSel_take ml (l.map Sx.key) k (by rw [List.length_map]; exact hkl)
    have hgk : (l.map Sx.key)[k]'(by rw [List.length_map]; exact hkl) = Sx.key l[k] := List.getElem_map _
    rw [hgk] at hst
    have HSt := Lib.hid hst
    have HOl : Hid ((docSel ml ((l.map Sx.key).take k) []).length ≤ 1000000) := Lib.hid (by have h1 := docSel_len ml ((l.map Sx.key).take k) []; rw [List.length_take, List.length_map] at h1; have := Hlen.out; simp only [List.length_nil] at h1; omega)
    clear hst hgk
    generalize l[k] = x at *
    clear hkl
    obtain ⟨xr, lv, lab⟩ := x
    simp only [Sx.key] at z0 z1 hx HSt HAl
    obtain ⟨A2, c2, rfl, -⟩ := hx
    have hal := HAllM.out lab
    rw [hal] at HAl
    clear hal
    generalize lab.length = n2 at *
    generalize passL ml lab = pl at *
    generalize ho2 : docSel ml ((l.map Sx.key).take (k + 1)) [] = o2 at *
    have HO2e := Lib.hid ho2
    clear ho2
    generalize docSel ml ((l.map Sx.key).take k) [] = o1 at *
    obtain ⟨A5, c5, rfl, -⟩ := id hO
    have HBw := Lib.hid (bthen hB (balloc (Below.refl wr.heap.size wr) (.cells #[.int .u64 xr, .slice A2 n2 c2] 96)))
    have HOw : Hid (SlU (wr.alloc (.cells #[.int .u64 xr, .slice A2 n2 c2] 96)) (fun j => w.heap.size ≤ j) (.slice A5 o1.length c5) o1) := Lib.hid (hO.below (balloc (Below.refl _ _) _))
    have x0 : (wr.alloc (.cells #[.int .u64 xr, .slice A2 n2 c2] 96)).cell? ⟨wr.heap.size, 0, none⟩ = some (.int .u64 xr) := by simp
    have HOLen := Lib.hid HOl.out
    generalize hol : o1.length = ol at *
    clear hO hB
    go_wp2_with fail
    generalize wr.alloc (.cells #[.int .u64 xr, .slice A2 n2 c2] 96) = W5 at *
    refine (HAl.out W5 HBw.out).mono ?_
    rintro e w6 ⟨rfl, hb6⟩
    have HB6 := Lib.hid (bthen HBw.out hb6)
    have HO6 := Lib.hid (HOw.out.below hb6)
    have y0 := later hb6 x0
    clear hb6 x0 z0 z1
    cases pl with
    | true =>
     have HE : Hid (o2 = withF o1 xr) := Lib.hid (by rw [HSt.out]; rfl)
     have HWi := Lib.hid (ref_with _ o1 xr w6 HO6.out (by rw [hol]; exact HOLen.out))
     clear hol
     go_wp2_with fail
     refine HWi.out.mono ?_
     rintro e w7 ⟨v7, rfl, hS7, hb7⟩
     have HB7 := Lib.hid (bthen HB6.out hb7)
     have HO7 : Hid (SlU w7 (fun j => w.heap.size ≤ j) v7 o2) := Lib.hid (by
      rw [HE.out]
      exact hS7.mono (fun j _ hj => hj.elim id (fun g => Nat.le_trans HB6.out.size g)))
     clear hS7 hb7
     go_wp2_with fail
     go_roundw
     case rel => exact ⟨k + 1, by omega, by go_num, by rw [HO2e.out]; exact HO7.out, HB7.out⟩
     case measure => simp [intOf] <;> omega
    | false =>
     have HE : Hid (o2 = o1) := Lib.hid (by rw [HSt.out]; rfl)
     have HO7 : Hid (SlU w6 (fun j => w.heap.size ≤ j) (.slice A5 ol c5) o2) := Lib.hid (by rw [HE.out]; exact HO6.out)
     clear hol
     go_wp2_with fail
     go_roundw
     case rel => exact ⟨k + 1, by omega, by go_num, by rw [HO2e.out]; exact HO7.out, HB6.out⟩
     case measure => simp [intOf] <;> omega
   ·have hkm : (l.map Sx.key).take k = l.map Sx.key := List.take_of_length_le (by rw [List.length_map, ← Hn.out]; omega)
    rw [hkm] at hO
    have HFin := Lib.hid (HPost.out wr _ hO hB)
    clear hkm hO hB
    go_wp2_with fail
    go_ret2
    exact HFin.out
 ·have ec : (readyE ml != 0) = true := by simp [h0]
  have HPost : Hid (∀ (W : World), Below w.heap.size w W → DSelPost w ml (l.map Sx.key) (.returned (.tuple #[.slice none 0 0, .int .i64 (readyE ml)])) W) := Lib.hid (fun W h2 => .inr ⟨h0, rfl, h2⟩)
  generalize readyE ml = re at *
  clear hl p1 p2 p5 hsz hz h0 hn hlen hml
  go_enter Tryz.func23, Tryz.ntmps23
  go_wp2_with fail
  refine HRt.out.mono ?_
  rintro e w1 ⟨rfl, hb1⟩
  have HFin := Lib.hid (HPost.out w1 hb1)
  clear hb1 hc
  go_wp2_with fail
  go_ret2
  exact HFin.out
end Go.Proofs.YtlhmdgaohonpbaaGreatDoor
