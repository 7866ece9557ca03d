import Derived.Test.YtlhmdgaohonpbaaGreatDoorGSl
import Derived.Deep.RegionLaw
set_option linter.unusedSimpArgs false
set_option linter.unusedVariables false
set_option linter.unusedSectionVars false
namespace Go.Proofs.YtlhmdgaohonpbaaGreatDoor
open Go.RowKit Go.Proofs.YtlhmdgaohonpbaaGreatDoor.MapRaw Go.ChangeMaps
set_option maxRecDepth 100000 in
set_option maxHeartbeats 8000000 in
theorem law_turned {D D1 D2 : Nat → Prop} (v : Value) (l : List OpV) (mv : Value) (ml : List Mt) (one : Mt) (w : World) (hv : Slc 3 OpV.enc w D v l) (ho : OpOk w D1 l) (hm : Slc 3 Mt.enc w D2 mv ml) (hzm : ∀ x ∈ ml, SzM x) (hz1 : SzM one) (hT : Tabs w) (h2 : 2 ≤ w.heap.size) :
  Calls Tryz.prog 8 #[v, mv, .agg #[.int .i64 one.kind, .string one.n, .string one.v]] w fun e w' => e = .returned (.bool true) ∧ Below w.heap.size w w' := by
 obtain ⟨w0, hw0⟩ : ∃ w0, w0 = w.alloc (.cells #[.int .i64 one.kind, .string one.n, .string one.v] 68) := ⟨_, rfl⟩
 have hbb : Below w.heap.size w w0 := by rw [hw0]; exact balloc (Below.refl _ _) _
 have HBb := Lib.hid hbb
 have hTb := hT.below hbb h2
 have h2b := Nat.le_trans h2 hbb.size
 have HLive := Lib.hid fun (W : World) (hW : Below w0.heap.size w0 W) => law10_live W (hTb.below hW h2b) (Nat.le_trans h2b hW.size)
 have HMuch := Lib.hid fun (W : World) (hW : Below w0.heap.size w0 W) => law_much v l W (hv.below (bthen hbb hW)) (fun o hoo => (ho o hoo).below (bthen hbb hW))
 have HLaid := Lib.hid fun (hmu : muchB l = false) (W : World) (hW : Below w0.heap.size w0 W) => law_laid v l w0 W hW (hv.below hbb) (fun o hoo => (ho o hoo).below hbb) hmu hTb h2b
 have HLongM := Lib.hid fun (W : World) (hW : Below w0.heap.size w0 W) => law_long mv ml W (hm.below (bthen hbb hW))
 have HLong1 := Lib.hid fun (W : World) (hW : Below w0.heap.size w0 W) => law_long (.slice (some ⟨W.heap.size, 0, none⟩) 1 1) [one] (W.alloc (.cells #[.int .i64 one.kind, .string one.n, .string one.v] 68)) (own_slc (enc := Mt.enc) mt_len rfl (own_new (n := 1) (sz := 3) (T := 68) (cs := #[.int .i64 one.kind, .string one.n, .string one.v]) rfl (by decide)))
 have HRm := Lib.hid fun (W : World) (hW : Below w0.heap.size w0 W) => k7_right mv ml W (hm.below (bthen hbb hW)) hzm
 have HChk := Lib.hid fun (W : World) (hW : Below w0.heap.size w0 W) => k7_check one W hz1
 have HM := Lib.hid (hm.below hbb)
 have HT := Lib.hid hTb
 have HZm := Lib.hid hzm
 have HZ1 := Lib.hid hz1
 have H2 := Lib.hid h2b
 have HB0 := Lib.hid (Below.refl w0.heap.size w0)
 obtain ⟨A, c, rfl, p1, p2, -, -, p5⟩ := hv
 obtain ⟨Am, cm, rfl, -⟩ := hm
 obtain ⟨m, hm⟩ : ∃ m, m = l.length := ⟨_, rfl⟩
 rw [← hm] at HMuch HLaid ⊢
 clear ho p1 p2 p5 hT hTb h2b hbb hzm hz1 hm
 have k0 : w0.cell? ⟨w.heap.size, 0, none⟩ = some (.int .i64 one.kind) := by rw [hw0]; simp
 have k1 : w0.cell? ⟨w.heap.size, 1, none⟩ = some (.string one.n) := by rw [hw0]; simp
 have k2 : w0.cell? ⟨w.heap.size, 2, none⟩ = some (.string one.v) := by rw [hw0]; simp
 have HKb : Hid (w.heap.size < w0.heap.size) := Lib.hid (blk_of_cell k0)
 generalize hnm : ml.length = nm at *
 have HNm := Lib.hid hnm
 have HOne : Hid (one = ⟨one.kind, one.n, one.v⟩) := Lib.hid rfl
 generalize hkd : one.kind = kd at *
 generalize hon : one.n = on at *
 generalize hov : one.v = ov at *
 have HKd := Lib.hid hkd
 have HOn := Lib.hid hon
 have HOv := Lib.hid hov
 clear hnm hkd hon hov
 subst hw0
 cases hmu : muchB l with
 | true =>
  rw [hmu] at HMuch
  clear hmu HLaid
  go_enter Tryz.func8, Tryz.ntmps8
  go_wp2_with fail
  generalize w.alloc (.cells #[.int .i64 kd, .string on, .string ov] 68) = w0 at *
  refine (HLive.out w0 HB0.out).mono ?_
  rintro e w1 ⟨rfl, hb⟩
  have HB1 := Lib.hid (bthen HB0.out hb)
  clear hb
  go_wp2_with fail
  refine (HMuch.out w1 HB1.out).mono ?_
  rintro e w2 ⟨rfl, hb⟩
  have HB2 := Lib.hid (bthen HB1.out hb)
  clear hb
  go_wp2_with fail
  refine (HLive.out w2 HB2.out).mono ?_
  rintro e w3 ⟨rfl, hb⟩
  have HB3 := Lib.hid (bthen HB2.out hb)
  clear hb
  go_wp2_with fail
  go_ret
  exact ⟨rfl, bthen HBb.out HB3.out⟩
 | false =>
  rw [hmu] at HMuch
  have HLd := Lib.hid (HLaid.out hmu)
  unfold LaidPost at HLd
  have HM60 : Hid (l.length ≤ 60) := Lib.hid (much_small hmu).1
  clear hmu HLaid
  cases hlg : longB ml with
  | true =>
   rw [hlg] at HLongM
   clear hlg
   go_enter Tryz.func8, Tryz.ntmps8
   go_wp2_with fail
   generalize w.alloc (.cells #[.int .i64 kd, .string on, .string ov] 68) = w0 at *
   refine (HLive.out w0 HB0.out).mono ?_
   rintro e w1 ⟨rfl, hb⟩
   have HB1 := Lib.hid (bthen HB0.out hb)
   clear hb
   go_wp2_with fail
   refine (HMuch.out w1 HB1.out).mono ?_
   rintro e w2 ⟨rfl, hb⟩
   have HB2 := Lib.hid (bthen HB1.out hb)
   clear hb
   go_wp2_with fail
   refine (HLongM.out w2 HB2.out).mono ?_
   rintro e w3 ⟨rfl, hb⟩
   have HB3 := Lib.hid (bthen HB2.out hb)
   clear hb
   go_wp2_with fail
   refine (HLive.out w3 HB3.out).mono ?_
   rintro e w4 ⟨rfl, hb⟩
   have HB4 := Lib.hid (bthen HB3.out hb)
   clear hb
   go_wp2_with fail
   go_ret
   exact ⟨rfl, bthen HBb.out HB4.out⟩
  | false =>
   rw [hlg] at HLongM
   clear hlg
   cases hlg : longB [one] with
   | true =>
    rw [hlg] at HLong1
    clear hlg
    go_enter Tryz.func8, Tryz.ntmps8
    go_wp2_with fail
    generalize w.alloc (.cells #[.int .i64 kd, .string on, .string ov] 68) = w0 at *
    refine (HLive.out w0 HB0.out).mono ?_
    rintro e w1 ⟨rfl, hb⟩
    have HB1 := Lib.hid (bthen HB0.out hb)
    clear hb
    go_wp2_with fail
    refine (HMuch.out w1 HB1.out).mono ?_
    rintro e w2 ⟨rfl, hb⟩
    have HB2 := Lib.hid (bthen HB1.out hb)
    clear hb
    go_wp2_with fail
    refine (HLongM.out w2 HB2.out).mono ?_
    rintro e w3 ⟨rfl, hb⟩
    have HB3 := Lib.hid (bthen HB2.out hb)
    clear hb
    have k0_3 := later HB3.out k0
    have k1_3 := later HB3.out k1
    have k2_3 := later HB3.out k2
    go_wp2_with fail
    refine (HLong1.out w3 HB3.out).mono ?_
    rintro e w4 ⟨rfl, hb⟩
    have HB4 := Lib.hid (bthen HB3.out (bthen (balloc (Below.refl _ _) _) hb))
    clear hb
    go_wp2_with fail
    refine (HLive.out w4 HB4.out).mono ?_
    rintro e w5 ⟨rfl, hb⟩
    have HB5 := Lib.hid (bthen HB4.out hb)
    clear hb
    go_wp2_with fail
    go_ret
    exact ⟨rfl, bthen HBb.out HB5.out⟩
   | false =>
    rw [hlg] at HLong1
    clear hlg
    by_cases hrm : readyE ml = 0
    rotate_left
    ·have ec : (readyE ml != 0) = true := by simp [hrm]
     generalize readyE ml = q at *
     clear hrm
     go_enter Tryz.func8, Tryz.ntmps8
     go_wp2_with fail
     generalize w.alloc (.cells #[.int .i64 kd, .string on, .string ov] 68) = w0 at *
     refine (HLive.out w0 HB0.out).mono ?_
     rintro e w1 ⟨rfl, hb⟩
     have HB1 := Lib.hid (bthen HB0.out hb)
     clear hb
     go_wp2_with fail
     refine (HMuch.out w1 HB1.out).mono ?_
     rintro e w2 ⟨rfl, hb⟩
     have HB2 := Lib.hid (bthen HB1.out hb)
     clear hb
     go_wp2_with fail
     refine (HLongM.out w2 HB2.out).mono ?_
     rintro e w3 ⟨rfl, hb⟩
     have HB3 := Lib.hid (bthen HB2.out hb)
     clear hb
     have k0_3 := later HB3.out k0
     have k1_3 := later HB3.out k1
     have k2_3 := later HB3.out k2
     go_wp2_with fail
     refine (HLong1.out w3 HB3.out).mono ?_
     rintro e w4 ⟨rfl, hb⟩
     have HB4 := Lib.hid (bthen HB3.out (bthen (balloc (Below.refl _ _) _) hb))
     clear hb
     go_wp2_with fail
     refine (HRm.out w4 HB4.out).mono ?_
     rintro e w5 ⟨rfl, hb⟩
     have HB5 := Lib.hid (bthen HB4.out hb)
     clear hb
     go_wp2_with fail
     refine (HLive.out w5 HB5.out).mono ?_
     rintro e w6 ⟨rfl, hb⟩
     have HB6 := Lib.hid (bthen HB5.out hb)
     clear hb
     go_wp2_with fail
     go_ret
     exact ⟨rfl, bthen HBb.out HB6.out⟩
    have ecm : (readyE ml != 0) = false := by simp [hrm]
    have Hrm := Lib.hid hrm
    have HN16 : Hid (nm ≤ 16) := Lib.hid (by have := (ready_split.1 hrm).1; rw [HNm.out] at this; exact this)
    clear hrm
    by_cases hs : 16 ≤ nm
    ·have d1 : decide ((nm : Int) ≥ 16) = true := decide_eq_true (by omega)
     have d2 : decide ((16 : Int) ≤ (nm : Int)) = true := decide_eq_true (by omega)
     have d3 : decide (16 ≤ nm) = true := decide_eq_true hs
     generalize readyE ml = q at *
     clear hs
     go_enter Tryz.func8, Tryz.ntmps8
     go_wp2_with fail
     generalize w.alloc (.cells #[.int .i64 kd, .string on, .string ov] 68) = w0 at *
     refine (HLive.out w0 HB0.out).mono ?_
     rintro e w1 ⟨rfl, hb⟩
     have HB1 := Lib.hid (bthen HB0.out hb)
     clear hb
     go_wp2_with fail
     refine (HMuch.out w1 HB1.out).mono ?_
     rintro e w2 ⟨rfl, hb⟩
     have HB2 := Lib.hid (bthen HB1.out hb)
     clear hb
     go_wp2_with fail
     refine (HLongM.out w2 HB2.out).mono ?_
     rintro e w3 ⟨rfl, hb⟩
     have HB3 := Lib.hid (bthen HB2.out hb)
     clear hb
     have k0_3 := later HB3.out k0
     have k1_3 := later HB3.out k1
     have k2_3 := later HB3.out k2
     go_wp2_with fail
     refine (HLong1.out w3 HB3.out).mono ?_
     rintro e w4 ⟨rfl, hb⟩
     have HB4 := Lib.hid (bthen HB3.out (bthen (balloc (Below.refl _ _) _) hb))
     clear hb
     go_wp2_with fail
     refine (HRm.out w4 HB4.out).mono ?_
     rintro e w5 ⟨rfl, hb⟩
     have HB5 := Lib.hid (bthen HB4.out hb)
     clear hb
     go_wp2_with fail
     refine (HLive.out w5 HB5.out).mono ?_
     rintro e w6 ⟨rfl, hb⟩
     have HB6 := Lib.hid (bthen HB5.out hb)
     clear hb
     go_wp2_with fail
     go_ret
     exact ⟨rfl, bthen HBb.out HB6.out⟩
    have d1 : decide ((nm : Int) ≥ 16) = false := decide_eq_false (by omega)
    have d2 : decide ((16 : Int) ≤ (nm : Int)) = false := decide_eq_false (by omega)
    have d3 : decide (16 ≤ nm) = false := decide_eq_false hs
    have HN15 : Hid (nm < 16) := Lib.hid (by omega)
    clear hs
    by_cases hch : checkM one = 0
    rotate_left
    ·have ec : (checkM one != 0) = true := by simp [hch]
     generalize readyE ml = q at *
     generalize checkM one = q2 at *
     clear hch
     go_enter Tryz.func8, Tryz.ntmps8
     go_wp2_with fail
     generalize w.alloc (.cells #[.int .i64 kd, .string on, .string ov] 68) = w0 at *
     refine (HLive.out w0 HB0.out).mono ?_
     rintro e w1 ⟨rfl, hb⟩
     have HB1 := Lib.hid (bthen HB0.out hb)
     clear hb
     go_wp2_with fail
     refine (HMuch.out w1 HB1.out).mono ?_
     rintro e w2 ⟨rfl, hb⟩
     have HB2 := Lib.hid (bthen HB1.out hb)
     clear hb
     go_wp2_with fail
     refine (HLongM.out w2 HB2.out).mono ?_
     rintro e w3 ⟨rfl, hb⟩
     have HB3 := Lib.hid (bthen HB2.out hb)
     clear hb
     have k0_3 := later HB3.out k0
     have k1_3 := later HB3.out k1
     have k2_3 := later HB3.out k2
     go_wp2_with fail
     refine (HLong1.out w3 HB3.out).mono ?_
     rintro e w4 ⟨rfl, hb⟩
     have HB4 := Lib.hid (bthen HB3.out (bthen (balloc (Below.refl _ _) _) hb))
     clear hb
     go_wp2_with fail
     refine (HRm.out w4 HB4.out).mono ?_
     rintro e w5 ⟨rfl, hb⟩
     have HB5 := Lib.hid (bthen HB4.out hb)
     clear hb
     have k0_5 := later HB5.out k0
     have k1_5 := later HB5.out k1
     have k2_5 := later HB5.out k2
     go_wp2_with fail
     refine (HChk.out w5 HB5.out).mono ?_
     rintro e w6 ⟨rfl, hb⟩
     have HB6 := Lib.hid (bthen HB5.out hb)
     clear hb
     go_wp2_with fail
     refine (HLive.out w6 HB6.out).mono ?_
     rintro e w7 ⟨rfl, hb⟩
     have HB7 := Lib.hid (bthen HB6.out hb)
     clear hb
     go_wp2_with fail
     go_ret
     exact ⟨rfl, bthen HBb.out HB7.out⟩
    have Hch := Lib.hid hch
    have HKk := Lib.hid (check_kind hch)
    have HOr : Hid (∀ I, IxOk I → orF (selR I (ml ++ [one])) (selR I (ml ++ [turnM one])) = selR I ml) := Lib.hid (fun I hI => turn_or hI Hrm.out hch (by rw [HNm.out]; exact HN15.out))
    have HAnd : Hid (∀ I, IxOk I → andF (selR I (ml ++ [one])) (selR I (ml ++ [turnM one])) = []) := Lib.hid (fun I hI => turn_and hI Hrm.out hch (by rw [HNm.out]; exact HN15.out))
    have HLess : Hid (∀ I, IxOk I → lessF (selR I ml) (selR I (ml ++ [one])) = selR I (ml ++ [turnM one])) := Lib.hid (fun I hI => turn_less hI Hrm.out hch (by rw [HNm.out]; exact HN15.out))
    have HR1 : Hid (readyE (ml ++ [one]) = 0) := Lib.hid (ready_one Hrm.out hch (by rw [HNm.out]; exact HN15.out))
    have HR2 : Hid (readyE (ml ++ [turnM one]) = 0) := Lib.hid (ready_turn Hrm.out hch (by rw [HNm.out]; exact HN15.out))
    have HZ1s : Hid (∀ x ∈ ml ++ [one], SzM x) := Lib.hid (fun x hx => (List.mem_append.1 hx).elim (HZm.out x) (fun h => by simp at h; rw [h]; exact HZ1.out))
    have HZ2s : Hid (∀ x ∈ ml ++ [turnM one], SzM x) := Lib.hid (fun x hx => (List.mem_append.1 hx).elim (HZm.out x) (fun h => by simp at h; rw [h]; exact HZ1.out))
    have HRme := Hrm.out
    have HChe := Hch.out
    rw [HRme] at HRm ecm
    rw [HChe] at HChk
    clear HRme HChe hch
    go_enter Tryz.func8, Tryz.ntmps8
    go_wp2_with fail
    generalize w.alloc (.cells #[.int .i64 kd, .string on, .string ov] 68) = w0 at *
    refine (HLive.out w0 HB0.out).mono ?_
    rintro e w1 ⟨rfl, hb⟩
    have HB1 := Lib.hid (bthen HB0.out hb)
    clear hb
    go_wp2_with fail
    refine (HMuch.out w1 HB1.out).mono ?_
    rintro e w2 ⟨rfl, hb⟩
    have HB2 := Lib.hid (bthen HB1.out hb)
    clear hb
    go_wp2_with fail
    refine (HLongM.out w2 HB2.out).mono ?_
    rintro e w3 ⟨rfl, hb⟩
    have HB3 := Lib.hid (bthen HB2.out hb)
    clear hb
    have k0_3 := later HB3.out k0
    have k1_3 := later HB3.out k1
    have k2_3 := later HB3.out k2
    go_wp2_with fail
    refine (HLong1.out w3 HB3.out).mono ?_
    rintro e w4 ⟨rfl, hb⟩
    have HB4 := Lib.hid (bthen HB3.out (bthen (balloc (Below.refl _ _) _) hb))
    clear hb
    go_wp2_with fail
    refine (HRm.out w4 HB4.out).mono ?_
    rintro e w5 ⟨rfl, hb⟩
    have HB5 := Lib.hid (bthen HB4.out hb)
    clear hb
    have k0_5 := later HB5.out k0
    have k1_5 := later HB5.out k1
    have k2_5 := later HB5.out k2
    go_wp2_with fail
    refine (HChk.out w5 HB5.out).mono ?_
    rintro e w6 ⟨rfl, hb⟩
    have HB6 := Lib.hid (bthen HB5.out hb)
    clear hb
    go_wp2_with fail
    refine (HLd.out w6 HB6.out).mono ?_
    rintro e w7 ⟨xb, yb, rfl, hBo, hln⟩
    obtain ⟨X, ab, rb, hb, inner, vy, ls, hBo, hkeys⟩ := hBo
    generalize opsI l ix0 = I at *
    have HIl : Hid (I.all.length ≤ 60) := Lib.hid (by have := HM60.out; omega)
    have HBo7 := Lib.hid hBo
    have HSel : Hid (∀ (W : World) (Dq : Nat → Prop) (qv : Value) (ql : List Mt), Bo w0 xb yb [] I X ab rb hb inner vy ls W → Slc 3 Mt.enc W Dq qv ql → (∀ x ∈ ql, SzM x) → Calls Tryz.prog 17 #[.pointer (some ⟨xb, 0, none⟩), qv] W (SelV W (selR I ql) (readyE ql))) := Lib.hid (fun W Dq qv ql hW hq hzq => (ix_select qv ql W hW.ix hW.ok (by have := HIl.out; omega) (right_sz hW.ok) hq hzq (HT.out.below hW.below H2.out) (Nat.le_trans H2.out hW.below.size)).mono (fun e w' h => SelPost.v h))
    have HSm : Hid (∀ (W : World), Bo w0 xb yb [] I X ab rb hb inner vy ls W → Calls Tryz.prog 17 #[.pointer (some ⟨xb, 0, none⟩), .slice Am nm cm] W (SelV W (selR I ml) 0)) := Lib.hid (fun W hW => by have h3 := HSel.out W _ _ ml hW (HM.out.below hW.below) HZm.out; rw [Hrm.out] at h3; exact h3)
    have HS1 : Hid (∀ (W : World) (qv : Value) (Dq : Nat → Prop), Bo w0 xb yb [] I X ab rb hb inner vy ls W → Slc 3 Mt.enc W Dq qv (ml ++ [one]) → Calls Tryz.prog 17 #[.pointer (some ⟨xb, 0, none⟩), qv] W (SelV W (selR I (ml ++ [one])) 0)) := Lib.hid (fun W qv Dq hW hq => by have h3 := HSel.out W _ qv (ml ++ [one]) hW hq HZ1s.out; rw [HR1.out] at h3; exact h3)
    have HS2 : Hid (∀ (W : World) (qv : Value) (Dq : Nat → Prop), Bo w0 xb yb [] I X ab rb hb inner vy ls W → Slc 3 Mt.enc W Dq qv (ml ++ [turnM one]) → Calls Tryz.prog 17 #[.pointer (some ⟨xb, 0, none⟩), qv] W (SelV W (selR I (ml ++ [turnM one])) 0)) := Lib.hid (fun W qv Dq hW hq => by have h3 := HSel.out W _ qv (ml ++ [turnM one]) hW hq HZ2s.out; rw [HR2.out] at h3; exact h3)
    have HLenM := Lib.hid (sel_len I ml)
    have HLen1 := Lib.hid (sel_len I (ml ++ [one]))
    have HLen2 := Lib.hid (sel_len I (ml ++ [turnM one]))
    have HOi := Lib.hid (HOr.out I hBo.ok)
    have HAi := Lib.hid (HAnd.out I hBo.ok)
    have HLi := Lib.hid (HLess.out I hBo.ok)
    have HTm : Hid (turnM one = ⟨turnK kd, on, ov⟩) := Lib.hid (by unfold turnM; rw [HKd.out, HOn.out, HOv.out])
    have HOm : Hid (one = ⟨kd, on, ov⟩) := HOne
    generalize selR I ml = sm at *
    generalize selR I (ml ++ [one]) = s1 at *
    generalize selR I (ml ++ [turnM one]) = s2 at *
    have k0_7 := later HBo7.out.below k0
    have k1_7 := later HBo7.out.below k1
    have k2_7 := later HBo7.out.below k2
    have HBo8 := Lib.hid (HBo7.out.then (balloc (Below.refl _ _) (.cells #[.int .i64 kd, .string on, .string ov] 68)))
    have x0 : (w7.alloc (.cells #[.int .i64 kd, .string on, .string ov] 68)).cell? ⟨w.heap.size, 0, none⟩ = some (.int .i64 kd) := later (balloc (Below.refl _ _) _) k0_7
    have hblk8 := blk_new w7 (.cells #[.int .i64 kd, .string on, .string ov] 68)
    have HBlk8 := Lib.hid hblk8
    have y0 : (w7.alloc (.cells #[.int .i64 kd, .string on, .string ov] 68)).cell? ⟨w7.heap.size, 0, none⟩ = some (.int .i64 kd) := by simp
    have f0 : (w7.alloc (.cells #[.int .i64 kd, .string on, .string ov] 68)).frozen? ⟨w7.heap.size, 0, none⟩ = false := free_blk (i := 0) hblk8
    clear hblk8
    clear hBo hkeys hln HSel HAnd HOr HLess
    have HB78 := Lib.hid (balloc (Below.refl w7.heap.size w7) (.cells #[.int .i64 kd, .string on, .string ov] 68))
    go_upto_block 0 with fail
    generalize w7.alloc (.cells #[.int .i64 kd, .string on, .string ov] 68) = w8 at *
    go_cut [] (fun wx => wx.heap[w7.heap.size]? = some (.cells #[.int .i64 (turnK kd), .string on, .string ov] 68 (0, 0)) ∧ Below w7.heap.size w7 wx)
    case first =>
     have hk4 : kd = 1 ∨ kd = 2 ∨ kd = 3 ∨ kd = 4 := by have := HKk.out; rw [HKd.out] at this; omega
     clear HM HSm HS1 HS2
     rcases hk4 with rfl | rfl | rfl | rfl
     ·have HFin : Hid ((w8.setCell ⟨w7.heap.size, 0, none⟩ (.int .i64 2)).heap[w7.heap.size]? = some (.cells #[.int .i64 (turnK 1), .string on, .string ov] 68 (0, 0)) ∧ Below w7.heap.size w7 (w8.setCell ⟨w7.heap.size, 0, none⟩ (.int .i64 2))) := Lib.hid ⟨setCell_blk (i := 0) _ HBlk8.out, below_cell HB78.out (Nat.le_refl _) _ _⟩
      go_wp2_with fail
      go_meet
      exact HFin.out
     ·have HFin : Hid ((w8.setCell ⟨w7.heap.size, 0, none⟩ (.int .i64 1)).heap[w7.heap.size]? = some (.cells #[.int .i64 (turnK 2), .string on, .string ov] 68 (0, 0)) ∧ Below w7.heap.size w7 (w8.setCell ⟨w7.heap.size, 0, none⟩ (.int .i64 1))) := Lib.hid ⟨setCell_blk (i := 0) _ HBlk8.out, below_cell HB78.out (Nat.le_refl _) _ _⟩
      go_wp2_with fail
      go_meet
      exact HFin.out
     ·have HFin : Hid ((w8.setCell ⟨w7.heap.size, 0, none⟩ (.int .i64 4)).heap[w7.heap.size]? = some (.cells #[.int .i64 (turnK 3), .string on, .string ov] 68 (0, 0)) ∧ Below w7.heap.size w7 (w8.setCell ⟨w7.heap.size, 0, none⟩ (.int .i64 4))) := Lib.hid ⟨setCell_blk (i := 0) _ HBlk8.out, below_cell HB78.out (Nat.le_refl _) _ _⟩
      go_wp2_with fail
      go_meet
      exact HFin.out
     ·have HFin : Hid ((w8.setCell ⟨w7.heap.size, 0, none⟩ (.int .i64 3)).heap[w7.heap.size]? = some (.cells #[.int .i64 (turnK 4), .string on, .string ov] 68 (0, 0)) ∧ Below w7.heap.size w7 (w8.setCell ⟨w7.heap.size, 0, none⟩ (.int .i64 3))) := Lib.hid ⟨setCell_blk (i := 0) _ HBlk8.out, below_cell HB78.out (Nat.le_refl _) _ _⟩
      go_wp2_with fail
      go_meet
      exact HFin.out
    case rest =>
     have HBlkT := Lib.hid hcut.1
     have HBo9 := Lib.hid (HBo7.out.then hcut.2)
     have HTlt : Hid (w7.heap.size < wc.heap.size) := Lib.hid (Array.getElem?_eq_some_iff.1 hcut.1).1
     generalize wc = w9 at *
     clear hcut x0 y0 f0
     go_wp2_with fail
     refine (HSm.out w9 HBo9.out).mono ?_
     rintro e wA ⟨vA, rfl, hsA, hbA⟩
     obtain ⟨AA, cA, rfl, -⟩ := id hsA
     have HVA := Lib.hid hsA
     have HBoA := Lib.hid (HBo9.out.then hbA)
     have HBlkA := Lib.hid (blk_below HBlkT.out hbA)
     clear hsA hbA
     go_upto_region 16 with fail
     have g0 : wA.drew.cell? ⟨w.heap.size, 0, none⟩ = some (.int .i64 kd) := later HBoA.out.below k0
     have g1 : wA.drew.cell? ⟨w.heap.size, 1, none⟩ = some (.string on) := later HBoA.out.below k1
     have g2 : wA.drew.cell? ⟨w.heap.size, 2, none⟩ = some (.string ov) := later HBoA.out.below k2
     have i0 : ∀ o : Obj, (wA.alloc o).cell? ⟨w.heap.size, 0, none⟩ = some (.int .i64 kd) := fun o => later (balloc (Below.refl _ _) o) g0
     have i1 : ∀ o : Obj, (wA.alloc o).cell? ⟨w.heap.size, 1, none⟩ = some (.string on) := fun o => later (balloc (Below.refl _ _) o) g1
     have i2 : ∀ o : Obj, (wA.alloc o).cell? ⟨w.heap.size, 2, none⟩ = some (.string ov) := fun o => later (balloc (Below.refl _ _) o) g2
     have hE : ∀ o : Obj, Below wA.heap.size wA (wA.alloc o) := fun o => balloc (Below.refl _ _) o
     have hszE : ∀ o : Obj, (wA.alloc o).heap.size = wA.heap.size + 1 := fun o => Array.size_push _
     have rA : Below wA.heap.size wA (wA.alloc (.cells #[] 68)).drew := bdrew (balloc (Below.refl _ _) _)
     have rB : Below wA.heap.size wA ((wA.alloc (.cells #[] 68)).alloc (.cells #[.int .i64 kd, .string on, .string ov] 68)).drew := bdrew (balloc (balloc (Below.refl _ _) _) _)
     have rC : Below wA.heap.size wA ((wA.alloc (.cells #[.int .i64 kd, .string on, .string ov] 68)).alloc (.cells #[] 68)).drew := bdrew (balloc (balloc (Below.refl _ _) _) _)
     have rD : Below wA.heap.size wA (wA.alloc (.cells #[.int .i64 kd, .string on, .string ov] 68)).drew := bdrew (balloc (Below.refl _ _) _)
     have eA : Below (wA.alloc (.cells #[] 68)).heap.size (wA.alloc (.cells #[] 68)) (wA.alloc (.cells #[] 68)).drew := bdrew (Below.refl _ _)
     have eB : Below (wA.alloc (.cells #[] 68)).heap.size (wA.alloc (.cells #[] 68)) ((wA.alloc (.cells #[] 68)).alloc (.cells #[.int .i64 kd, .string on, .string ov] 68)).drew := bdrew (balloc (Below.refl _ _) _)
     have eC : Below ((wA.alloc (.cells #[.int .i64 kd, .string on, .string ov] 68)).alloc (.cells #[] 68)).heap.size ((wA.alloc (.cells #[.int .i64 kd, .string on, .string ov] 68)).alloc (.cells #[] 68)) ((wA.alloc (.cells #[.int .i64 kd, .string on, .string ov] 68)).alloc (.cells #[] 68)).drew := bdrew (Below.refl _ _)
     have HOA := Lib.hid (World.ownsRow_lit (base := wA.heap.size) (e := 68) (size := 3) wA #[] 0 (Nat.le_refl _) (by decide) rfl)
     have HOC : Hid (((wA.alloc (.cells #[.int .i64 kd, .string on, .string ov] 68)).alloc (.cells #[] 68)).ownsRow wA.heap.size 68 3 (.slice (some ⟨wA.heap.size + 1, 0, none⟩) 0 0) 0 []) := Lib.hid (by
      have h3 := World.ownsRow_lit (base := (wA.alloc (.cells #[.int .i64 kd, .string on, .string ov] 68)).heap.size) (e := 68) (size := 3) (wA.alloc (.cells #[.int .i64 kd, .string on, .string ov] 68)) #[] 0 (Nat.le_refl _) (by decide) rfl
      rw [hszE] at h3
      exact own_shift h3 (Nat.le_succ _))
     have HBA := Lib.hid (balloc (Below.refl wA.heap.size wA) (.cells #[] 68))
     have HBC : Hid (Below wA.heap.size wA ((wA.alloc (.cells #[.int .i64 kd, .string on, .string ov] 68)).alloc (.cells #[] 68))) := Lib.hid (balloc (balloc (Below.refl _ _) _) _)
     have HSrc : Hid (∀ W' : World, Below wA.heap.size wA W' → SrcAt W' (.slice Am nm cm) nm 3 (ml.flatMap Mt.enc)) := Lib.hid (fun W' hW' => by
      have h3 := (HM.out.below (bthen HBoA.out.below hW')).src mt_len mt_one (by decide)
      rw [HNm.out] at h3
      exact h3)
     have HQ : Hid (∀ (W' : World) (v' : Value), W'.ownsRow wA.heap.size 68 3 v' (0 + nm + 1) ([] ++ ml.flatMap Mt.enc ++ Mt.enc ⟨kd, on, ov⟩) → Slc 3 Mt.enc W' (fun k => wA.heap.size ≤ k) v' (ml ++ [one])) := Lib.hid (fun W' v' h => own_slc (n := 0 + nm + 1) (enc := Mt.enc) mt_len (by simp [HNm.out]) (by rw [HOm.out, List.flatMap_append]; simpa using h))
     have hn16 : nm ≤ 16 := HN16.out
     have hbB : ((wA.alloc (.cells #[] 68)).alloc (.cells #[.int .i64 kd, .string on, .string ov] 68)).drew.heap[wA.heap.size + 1]? = some (.cells #[.int .i64 kd, .string on, .string ov] 68 (0, 0)) := (by rw [← hszE (.cells #[] 68)]; exact blk_new (wA.alloc (.cells #[] 68)) _)
     have NB : Hid (some (wA.heap.size + 1) ≠ (Value.slice (some ⟨wA.heap.size, 0, none⟩) 0 0).ownBlock) := Lib.hid (by intro h; have h3 : wA.heap.size + 1 = wA.heap.size := Option.some.inj h; omega)
     have NC : Hid (some wA.heap.size ≠ (Value.slice (some ⟨wA.heap.size + 1, 0, none⟩) 0 0).ownBlock) := Lib.hid (by intro h; have h3 : wA.heap.size = wA.heap.size + 1 := Option.some.inj h; omega)
     have hbC : ((wA.alloc (.cells #[.int .i64 kd, .string on, .string ov] 68)).alloc (.cells #[] 68)).drew.heap[wA.heap.size]? = some (.cells #[.int .i64 kd, .string on, .string ov] 68 (0, 0)) := (by show ((wA.alloc (.cells #[.int .i64 kd, .string on, .string ov] 68)).alloc (.cells #[] 68)).heap[wA.heap.size]? = _; exact blk_below (blk_new wA _) (balloc (Below.refl _ _) _))
     go_cut [13, 14] (fun va ve wx => ve = .int .i64 0 ∧ SlU wx (fun k => wA.heap.size ≤ k) va s1 ∧ Below wA.heap.size wA wx)
     case first =>
      go_region_law (first
       | (go_simp; go_at_call 17; refine (HS1.out wz _ _ (HBoA.out.then hB2) (HQ.out _ _ hO2)).mono ?_; rintro e wy ⟨vy', rfl, hsy, hby⟩)
       | (refine step_app2 (o := ⟨some 82, _, _, _, _, _⟩) (w0 := wA) (W0 := wx1) wA.heap.size rfl _ _ 23 68 _ 3 40 1 (Mt.enc ⟨kd, on, ov⟩) rfl Tryz.underlying23 info_mt rfl (by decide) (by decide) v1 (0 + nm) _ rfl _ rfl (by first | exact src_block (blk_new _ _) rfl (mt_one ⟨kd, on, ov⟩) 1 | exact src_block hbx.out rfl (mt_one ⟨kd, on, ov⟩) 1) hO1 hB1 hB1.size (by first | exact Below.refl _ _ | exact balloc (Below.refl _ _) _) (by omega) ?_; intro v2 wz hO2 hB2 hg2 hat2)
       | (refine step_app2 (o := ⟨some 79, _, _, _, _, _⟩) (w0 := wA) (W0 := (wA.alloc (.cells #[] 68))) wA.heap.size rfl _ _ 23 68 _ 3 40 nm (ml.flatMap Mt.enc) rfl Tryz.underlying23 info_mt rfl (by decide) (by decide) (.slice (some ⟨wA.heap.size, 0, none⟩) 0 0) 0 [] rfl _ rfl (HSrc.out _ (by first | exact rA | exact rB)) HOA.out HBA.out HBA.out.size (by first | exact eA | exact eB) (by omega) ?_; intro v1 wx1 hO1 hB1 hg1 hat1; have j0 := later hB1 g0; have j1 := later hB1 g1; have j2 := later hB1 g2; (try have hbx := Lib.hid (blk_grown (w := ((wA.alloc (.cells #[] 68)).alloc (.cells #[.int .i64 kd, .string on, .string ov] 68)).drew) hbB hg1 NB.out)))
       | (refine step_app2 (o := ⟨some 79, _, _, _, _, _⟩) (w0 := wA) (W0 := ((wA.alloc (.cells #[.int .i64 kd, .string on, .string ov] 68)).alloc (.cells #[] 68))) wA.heap.size rfl _ _ 23 68 _ 3 40 nm (ml.flatMap Mt.enc) rfl Tryz.underlying23 info_mt rfl (by decide) (by decide) (.slice (some ⟨wA.heap.size + 1, 0, none⟩) 0 0) 0 [] rfl _ rfl (HSrc.out _ rC) HOC.out HBC.out HBC.out.size eC (by omega) ?_; intro v1 wx1 hO1 hB1 hg1 hat1; have hbx := Lib.hid (blk_grown (w := ((wA.alloc (.cells #[.int .i64 kd, .string on, .string ov] 68)).alloc (.cells #[] 68)).drew) hbC hg1 NC.out)))
      all_goals
       have HFin := Lib.hid (show SlU wy (fun k => wA.heap.size ≤ k) vy' s1 ∧ Below wA.heap.size wA wy from ⟨hsy.mono (fun k _ hk => Nat.le_trans hB2.size hk), bthen hB2 hby⟩)
       go_wp2_with fail
       go_meet
       exact ⟨rfl, HFin.out⟩
     case rest =>
      obtain ⟨rfl, hS, hB⟩ := hcut
      clear g0 g1 g2 i0 i1 i2 hE hszE rA rB rC rD eA eB eC hbB hbC hn16
      clear HOA HOC HBA HBC HSrc HQ NB NC
      generalize wc = wB at *
      have HVB := Lib.hid hS
      obtain ⟨AB, cB, rfl, -⟩ := id hS
      have HVA2 := Lib.hid (HVA.out.below hB)
      have HBoB := Lib.hid (HBoA.out.then hB)
      have HBlkB := Lib.hid (blk_below HBlkA.out hB)
      have t0 := blk_cell HBlkB.out 0
      have t1 := blk_cell HBlkB.out 1
      have t2 := blk_cell HBlkB.out 2
      simp at t0 t1 t2
      clear hS hB k0 k1 k2 k0_7 k1_7 k2_7 k0_3 k1_3 k2_3 k0_5 k1_5 k2_5
      go_upto_region 17 with fail
      have g0 : wB.drew.cell? ⟨w7.heap.size, 0, none⟩ = some (.int .i64 (turnK kd)) := t0
      have g1 : wB.drew.cell? ⟨w7.heap.size, 1, none⟩ = some (.string on) := t1
      have g2 : wB.drew.cell? ⟨w7.heap.size, 2, none⟩ = some (.string ov) := t2
      have i0 : ∀ o : Obj, (wB.alloc o).cell? ⟨w7.heap.size, 0, none⟩ = some (.int .i64 (turnK kd)) := fun o => later (balloc (Below.refl _ _) o) g0
      have i1 : ∀ o : Obj, (wB.alloc o).cell? ⟨w7.heap.size, 1, none⟩ = some (.string on) := fun o => later (balloc (Below.refl _ _) o) g1
      have i2 : ∀ o : Obj, (wB.alloc o).cell? ⟨w7.heap.size, 2, none⟩ = some (.string ov) := fun o => later (balloc (Below.refl _ _) o) g2
      have hE : ∀ o : Obj, Below wB.heap.size wB (wB.alloc o) := fun o => balloc (Below.refl _ _) o
      have hszE : ∀ o : Obj, (wB.alloc o).heap.size = wB.heap.size + 1 := fun o => Array.size_push _
      have rA : Below wB.heap.size wB (wB.alloc (.cells #[] 68)).drew := bdrew (balloc (Below.refl _ _) _)
      have rB : Below wB.heap.size wB ((wB.alloc (.cells #[] 68)).alloc (.cells #[.int .i64 (turnK kd), .string on, .string ov] 68)).drew := bdrew (balloc (balloc (Below.refl _ _) _) _)
      have rC : Below wB.heap.size wB ((wB.alloc (.cells #[.int .i64 (turnK kd), .string on, .string ov] 68)).alloc (.cells #[] 68)).drew := bdrew (balloc (balloc (Below.refl _ _) _) _)
      have rD : Below wB.heap.size wB (wB.alloc (.cells #[.int .i64 (turnK kd), .string on, .string ov] 68)).drew := bdrew (balloc (Below.refl _ _) _)
      have eA : Below (wB.alloc (.cells #[] 68)).heap.size (wB.alloc (.cells #[] 68)) (wB.alloc (.cells #[] 68)).drew := bdrew (Below.refl _ _)
      have eB : Below (wB.alloc (.cells #[] 68)).heap.size (wB.alloc (.cells #[] 68)) ((wB.alloc (.cells #[] 68)).alloc (.cells #[.int .i64 (turnK kd), .string on, .string ov] 68)).drew := bdrew (balloc (Below.refl _ _) _)
      have eC : Below ((wB.alloc (.cells #[.int .i64 (turnK kd), .string on, .string ov] 68)).alloc (.cells #[] 68)).heap.size ((wB.alloc (.cells #[.int .i64 (turnK kd), .string on, .string ov] 68)).alloc (.cells #[] 68)) ((wB.alloc (.cells #[.int .i64 (turnK kd), .string on, .string ov] 68)).alloc (.cells #[] 68)).drew := bdrew (Below.refl _ _)
      have HOA := Lib.hid (World.ownsRow_lit (base := wB.heap.size) (e := 68) (size := 3) wB #[] 0 (Nat.le_refl _) (by decide) rfl)
      have HOC : Hid (((wB.alloc (.cells #[.int .i64 (turnK kd), .string on, .string ov] 68)).alloc (.cells #[] 68)).ownsRow wB.heap.size 68 3 (.slice (some ⟨wB.heap.size + 1, 0, none⟩) 0 0) 0 []) := Lib.hid (by
       have h3 := World.ownsRow_lit (base := (wB.alloc (.cells #[.int .i64 (turnK kd), .string on, .string ov] 68)).heap.size) (e := 68) (size := 3) (wB.alloc (.cells #[.int .i64 (turnK kd), .string on, .string ov] 68)) #[] 0 (Nat.le_refl _) (by decide) rfl
       rw [hszE] at h3
       exact own_shift h3 (Nat.le_succ _))
      have HBA := Lib.hid (balloc (Below.refl wB.heap.size wB) (.cells #[] 68))
      have HBC : Hid (Below wB.heap.size wB ((wB.alloc (.cells #[.int .i64 (turnK kd), .string on, .string ov] 68)).alloc (.cells #[] 68))) := Lib.hid (balloc (balloc (Below.refl _ _) _) _)
      have HSrc : Hid (∀ W' : World, Below wB.heap.size wB W' → SrcAt W' (.slice Am nm cm) nm 3 (ml.flatMap Mt.enc)) := Lib.hid (fun W' hW' => by
       have h3 := (HM.out.below (bthen HBoB.out.below hW')).src mt_len mt_one (by decide)
       rw [HNm.out] at h3
       exact h3)
      have HQ : Hid (∀ (W' : World) (v' : Value), W'.ownsRow wB.heap.size 68 3 v' (0 + nm + 1) ([] ++ ml.flatMap Mt.enc ++ Mt.enc ⟨(turnK kd), on, ov⟩) → Slc 3 Mt.enc W' (fun k => wB.heap.size ≤ k) v' (ml ++ [turnM one])) := Lib.hid (fun W' v' h => own_slc (n := 0 + nm + 1) (enc := Mt.enc) mt_len (by simp [HNm.out]) (by rw [HTm.out, List.flatMap_append]; simpa using h))
      have hn16 : nm ≤ 16 := HN16.out
      have hbB : ((wB.alloc (.cells #[] 68)).alloc (.cells #[.int .i64 (turnK kd), .string on, .string ov] 68)).drew.heap[wB.heap.size + 1]? = some (.cells #[.int .i64 (turnK kd), .string on, .string ov] 68 (0, 0)) := (by rw [← hszE (.cells #[] 68)]; exact blk_new (wB.alloc (.cells #[] 68)) _)
      have NB : Hid (some (wB.heap.size + 1) ≠ (Value.slice (some ⟨wB.heap.size, 0, none⟩) 0 0).ownBlock) := Lib.hid (by intro h; have h3 : wB.heap.size + 1 = wB.heap.size := Option.some.inj h; omega)
      have NC : Hid (some wB.heap.size ≠ (Value.slice (some ⟨wB.heap.size + 1, 0, none⟩) 0 0).ownBlock) := Lib.hid (by intro h; have h3 : wB.heap.size = wB.heap.size + 1 := Option.some.inj h; omega)
      have hbC : ((wB.alloc (.cells #[.int .i64 (turnK kd), .string on, .string ov] 68)).alloc (.cells #[] 68)).drew.heap[wB.heap.size]? = some (.cells #[.int .i64 (turnK kd), .string on, .string ov] 68 (0, 0)) := (by show ((wB.alloc (.cells #[.int .i64 (turnK kd), .string on, .string ov] 68)).alloc (.cells #[] 68)).heap[wB.heap.size]? = _; exact blk_below (blk_new wB _) (balloc (Below.refl _ _) _))
      go_cut [15, 16] (fun va ve wx => ve = .int .i64 0 ∧ SlU wx (fun k => wB.heap.size ≤ k) va s2 ∧ Below wB.heap.size wB wx)
      case first =>
       go_region_law (first
        | (go_simp; go_at_call 17; refine (HS2.out wz _ _ (HBoB.out.then hB2) (HQ.out _ _ hO2)).mono ?_; rintro e wy ⟨vy', rfl, hsy, hby⟩)
        | (refine step_app2 (o := ⟨some 93, _, _, _, _, _⟩) (w0 := wB) (W0 := wx1) wB.heap.size rfl _ _ 23 68 _ 3 40 1 (Mt.enc ⟨(turnK kd), on, ov⟩) rfl Tryz.underlying23 info_mt rfl (by decide) (by decide) v1 (0 + nm) _ rfl _ rfl (by first | exact src_block (blk_new _ _) rfl (mt_one ⟨(turnK kd), on, ov⟩) 1 | exact src_block hbx.out rfl (mt_one ⟨(turnK kd), on, ov⟩) 1) hO1 hB1 hB1.size (by first | exact Below.refl _ _ | exact balloc (Below.refl _ _) _) (by omega) ?_; intro v2 wz hO2 hB2 hg2 hat2)
        | (refine step_app2 (o := ⟨some 90, _, _, _, _, _⟩) (w0 := wB) (W0 := (wB.alloc (.cells #[] 68))) wB.heap.size rfl _ _ 23 68 _ 3 40 nm (ml.flatMap Mt.enc) rfl Tryz.underlying23 info_mt rfl (by decide) (by decide) (.slice (some ⟨wB.heap.size, 0, none⟩) 0 0) 0 [] rfl _ rfl (HSrc.out _ (by first | exact rA | exact rB)) HOA.out HBA.out HBA.out.size (by first | exact eA | exact eB) (by omega) ?_; intro v1 wx1 hO1 hB1 hg1 hat1; have j0 := later hB1 g0; have j1 := later hB1 g1; have j2 := later hB1 g2; (try have hbx := Lib.hid (blk_grown (w := ((wB.alloc (.cells #[] 68)).alloc (.cells #[.int .i64 (turnK kd), .string on, .string ov] 68)).drew) hbB hg1 NB.out)))
        | (refine step_app2 (o := ⟨some 90, _, _, _, _, _⟩) (w0 := wB) (W0 := ((wB.alloc (.cells #[.int .i64 (turnK kd), .string on, .string ov] 68)).alloc (.cells #[] 68))) wB.heap.size rfl _ _ 23 68 _ 3 40 nm (ml.flatMap Mt.enc) rfl Tryz.underlying23 info_mt rfl (by decide) (by decide) (.slice (some ⟨wB.heap.size + 1, 0, none⟩) 0 0) 0 [] rfl _ rfl (HSrc.out _ rC) HOC.out HBC.out HBC.out.size eC (by omega) ?_; intro v1 wx1 hO1 hB1 hg1 hat1; have hbx := Lib.hid (blk_grown (w := ((wB.alloc (.cells #[.int .i64 (turnK kd), .string on, .string ov] 68)).alloc (.cells #[] 68)).drew) hbC hg1 NC.out)))
       all_goals
        have HFin := Lib.hid (show SlU wy (fun k => wB.heap.size ≤ k) vy' s2 ∧ Below wB.heap.size wB wy from ⟨hsy.mono (fun k _ hk => Nat.le_trans hB2.size hk), bthen hB2 hby⟩)
        go_wp2_with fail
        go_meet
        exact ⟨rfl, HFin.out⟩
      case rest =>
       obtain ⟨rfl, hS, hB⟩ := hcut
       clear g0 g1 g2 i0 i1 i2 hE hszE rA rB rC rD eA eB eC hbB hbC hn16
       clear HOA HOC HBA HBC HSrc HQ NB NC
       generalize wc = wC at *
       have HVC := Lib.hid hS
       obtain ⟨AC, cC, rfl, -⟩ := id hS
       have HVA3 := Lib.hid (HVA2.out.below hB)
       have HVB3 := Lib.hid (HVB.out.below hB)
       have HBoC := Lib.hid (HBoB.out.then hB)
       have hor := post_or _ _ s1 s2 wC HVB3.out (by have := HLen1.out; have := HIl.out; omega) HVC.out (by have := HLen2.out; have := HIl.out; omega)
       unfold OwnPost at hor
       rw [HOi.out] at hor
       have HOrc := Lib.hid hor
       clear hS hB hor t0 t1 t2
       go_wp2_with fail
       refine HOrc.out.mono ?_
       rintro e wD ⟨vD, rfl, hOD, hbD⟩
       have HBoD := Lib.hid (HBoC.out.then hbD)
       have HVA4 := Lib.hid (HVA3.out.below hbD)
       have HVB4 := Lib.hid (HVB3.out.below hbD)
       have HVC4 := Lib.hid (HVC.out.below hbD)
       have hnu := law_numbers _ _ _ _ wD (own_slc encU_len rfl hOD) HVA4.out
       simp only [decide_true] at hnu
       have HNu := Lib.hid hnu
       obtain ⟨AD, cD, rfl⟩ := own_slice hOD
       clear hOD hbD hnu
       go_wp2_with fail
       refine HNu.out.mono ?_
       rintro e wE ⟨rfl, hbE⟩
       have HBoE := Lib.hid (HBoD.out.then hbE)
       have HVA5 := Lib.hid (HVA4.out.below hbE)
       have HVB5 := Lib.hid (HVB4.out.below hbE)
       have HVC5 := Lib.hid (HVC4.out.below hbE)
       have hand := post_and _ _ s1 s2 wE HVB5.out (by have := HLen1.out; have := HIl.out; omega) HVC5.out (by have := HLen2.out; have := HIl.out; omega)
       unfold OwnPost at hand
       rw [HAi.out] at hand
       have HAnc := Lib.hid hand
       clear hbE hand
       go_wp2_with fail
       refine HAnc.out.mono ?_
       rintro e wF ⟨vF, rfl, hOF, hbF⟩
       have HBoF := Lib.hid (HBoE.out.then hbF)
       have HVA6 := Lib.hid (HVA5.out.below hbF)
       have HVB6 := Lib.hid (HVB5.out.below hbF)
       have HVC6 := Lib.hid (HVC5.out.below hbF)
       obtain ⟨AF, cF, rfl⟩ := own_slice hOF
       simp only [List.length_nil]
       have hls := post_less _ _ sm s1 wF HVA6.out (by have := HLenM.out; have := HIl.out; omega) HVB6.out (by have := HLen1.out; have := HIl.out; omega)
       unfold OwnPost at hls
       rw [HLi.out] at hls
       have HLsc := Lib.hid hls
       clear hOF hbF hls
       go_wp2_with fail
       refine HLsc.out.mono ?_
       rintro e wG ⟨vG, rfl, hOG, hbG⟩
       have HBoG := Lib.hid (HBoF.out.then hbG)
       have hnu := law_numbers _ _ _ _ wG (own_slc encU_len rfl hOG) (HVC6.out.below hbG)
       simp only [decide_true] at hnu
       have HNu2 := Lib.hid hnu
       obtain ⟨AG, cG, rfl⟩ := own_slice hOG
       clear hOG hbG hnu
       go_wp2_with fail
       refine HNu2.out.mono ?_
       rintro e wH ⟨rfl, hbH⟩
       have HBH := Lib.hid (HBoG.out.then hbH).below
       clear hbH
       go_wp2_with fail
       go_ret
       exact ⟨rfl, bthen HBb.out HBH.out⟩
end Go.Proofs.YtlhmdgaohonpbaaGreatDoor
