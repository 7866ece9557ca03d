import Derived.Test.YtbjglcdoekbloaaGreatDoorGPtsA
import Derived.Test.YtbjglcdoekbloaaGreatDoorGRwA
import Derived.Test.YtbjglcdoekbloaaGreatDoorGLaA
set_option linter.unusedSimpArgs false
set_option linter.unusedVariables false
set_option linter.unusedSectionVars false
/- struct equality at entries and marks: what is the same. -/
namespace Go.Proofs.YtbjglcdoekbloaaGreatDoor
open Go.RowKit

theorem en_fields : ∃ f0 f1 : Field, Tryz.prog.underlying 100 = some (.struct #[f0, f1]) ∧ f0.name ≠ "_" ∧ f1.name ≠ "_" ∧ f0.offset = 0 ∧ f1.offset = 1 ∧ Tryz.prog.underlying f0.type = some (.int .u32) ∧ f1.type = 68 :=
  ⟨_, _, Tryz.underlying100, by decide, by decide, rfl, rfl, Tryz.underlying40, rfl⟩
theorem en_stood : Tryz.prog.stoodInHeld 100 = false := by kernel_rfl
theorem en_guard : Tryz.prog.eqGuardType Tryz.prog.depth 100 = false := by kernel_rfl
theorem run_part_pt (w : World) (r T V S : Value) : (part 68 #[r, T, V, S] 1).run Tryz.prog w = .ok (.agg #[T, V, S]) w := by kernel_rfl
theorem run_eqIn_pt_same (w : World) (T V S : Int) : (Op.equalIn 9999 68 (.agg #[.int .i64 T, .int .u64 V, .int .u64 S]) (.agg #[.int .i64 T, .int .u64 V, .int .u64 S])).run Tryz.prog w = .ok true w := by
  obtain ⟨f0, f1, f2, hk, n0, n1, n2, o0, o1, o2, t0, t1, t2⟩ := pt_fields
  have hf : Tryz.prog.fieldsOf 68 = #[f0, f1, f2] := by simp [Program.fieldsOf, hk]
  rw [run_equalIn_struct w 9998 _ _ _ (by rw [hf, hk]) pt_stood, hf]
  simp only [Op.eqFields, ne_eq, n0, n1, n2, not_false_eq_true, if_true, o0, o1, o2, Sem.run_bind]
  rw [run_part_int t0 w _ _ (.int .i64 T) (by simp)]; simp only [Result.andThen_ok]
  rw [run_part_int t0 w _ _ (.int .i64 T) (by simp)]; simp only [Result.andThen_ok]
  rw [run_equalIn_int w 9997 f0.type _ _ _ _ t0]; simp only [Result.andThen_ok]
  simp only [beq_self_eq_true, Bool.not_true, Bool.false_eq_true, if_false, Sem.run_bind]
  rw [run_part_int t1 w _ _ (.int .u64 V) (by simp)]; simp only [Result.andThen_ok]
  rw [run_part_int t1 w _ _ (.int .u64 V) (by simp)]; simp only [Result.andThen_ok]
  rw [run_equalIn_int w 9997 f1.type _ _ _ _ t1]; simp only [Result.andThen_ok]
  simp only [beq_self_eq_true, Bool.not_true, Bool.false_eq_true, if_false, Sem.run_bind]
  rw [run_part_int t2 w _ _ (.int .u64 S) (by simp)]; simp only [Result.andThen_ok]
  rw [run_part_int t2 w _ _ (.int .u64 S) (by simp)]; simp only [Result.andThen_ok]
  rw [run_equalIn_int w 9997 f2.type _ _ _ _ t2]; simp only [Result.andThen_ok]
  simp
theorem run_neq_en_same (w : World) (r T V S : Int) : (binOp .neq 100 (.agg #[.int .u32 r, .int .i64 T, .int .u64 V, .int .u64 S]) (.agg #[.int .u32 r, .int .i64 T, .int .u64 V, .int .u64 S])).run Tryz.prog w = .ok (.bool false) w := by
  have h : (Op.equalIn 10000 100 (.agg #[.int .u32 r, .int .i64 T, .int .u64 V, .int .u64 S]) (.agg #[.int .u32 r, .int .i64 T, .int .u64 V, .int .u64 S])).run Tryz.prog w = .ok true w := by
    obtain ⟨f0, f1, hk, n0, n1, o0, o1, t0, t1⟩ := en_fields
    have hf : Tryz.prog.fieldsOf 100 = #[f0, f1] := by simp [Program.fieldsOf, hk]
    rw [run_equalIn_struct w 9999 _ _ _ (by rw [hf, hk]) en_stood, hf]
    simp only [Op.eqFields, ne_eq, n0, n1, not_false_eq_true, if_true, o0, o1, Sem.run_bind]
    rw [run_part_int t0 w _ _ (.int .u32 r) (by simp)]; simp only [Result.andThen_ok]
    rw [run_part_int t0 w _ _ (.int .u32 r) (by simp)]; simp only [Result.andThen_ok]
    rw [run_equalIn_int w 9998 f0.type _ _ _ _ t0]; simp only [Result.andThen_ok]
    simp only [beq_self_eq_true, Bool.not_true, Bool.false_eq_true, if_false, Sem.run_bind, t1]
    rw [run_part_pt]; simp only [Result.andThen_ok]
    rw [run_part_pt]; simp only [Result.andThen_ok]
    first
      | rw [run_eqIn_pt_same]
      | (have h9 := run_eqIn_pt_same w T V S; simp [h9])
    simp
  rw [run_neq_struct, h]; rfl
theorem run_guard_en (w : World) (op : BinOp) (x y : Operand) (xs ys : Array Value) : (eqGuard op 100 x y (.agg xs) (.agg ys)).run Tryz.prog w = .ok () w := run_eqGuard_agg w op _ x y xs ys en_guard
theorem mk_fields : ∃ f0 f1 : Field, Tryz.prog.underlying 79 = some (.struct #[f0, f1]) ∧ f0.name ≠ "_" ∧ f1.name ≠ "_" ∧ f0.offset = 0 ∧ f1.offset = 1 ∧ Tryz.prog.underlying f0.type = some (.int .i64) ∧ Tryz.prog.underlying f1.type = some .bool :=
  ⟨_, _, Tryz.underlying79, by decide, by decide, rfl, rfl, Tryz.underlying3, Tryz.underlying4⟩
theorem mk_stood : Tryz.prog.stoodInHeld 79 = false := by kernel_rfl
theorem run_part_b {P : Program} {t : TypeId} (ht : P.underlying t = some .bool) (w : World) (cs : Array Value) (i : Nat) (v : Value) (h : cs[i]? = some v) : (part t cs i).run P w = .ok v w := by
  unfold part isAgg; simp [run_underlying ht, h]
theorem run_neq_mk_same (w : World) (a : Int) (b : Bool) : (binOp .neq 79 (.agg #[.int .i64 a, .bool b]) (.agg #[.int .i64 a, .bool b])).run Tryz.prog w = .ok (.bool false) w := by
  have h : (Op.equalIn 10000 79 (.agg #[.int .i64 a, .bool b]) (.agg #[.int .i64 a, .bool b])).run Tryz.prog w = .ok true w := by
    obtain ⟨f0, f1, hk, n0, n1, o0, o1, t0, t1⟩ := mk_fields
    have hf : Tryz.prog.fieldsOf 79 = #[f0, f1] := by simp [Program.fieldsOf, hk]
    rw [run_equalIn_struct w 9999 _ _ _ (by rw [hf, hk]) mk_stood, hf]
    simp only [Op.eqFields, ne_eq, n0, n1, not_false_eq_true, if_true, o0, o1, Sem.run_bind]
    rw [run_part_int t0 w _ _ (.int .i64 a) (by simp)]; simp only [Result.andThen_ok]
    rw [run_part_int t0 w _ _ (.int .i64 a) (by simp)]; simp only [Result.andThen_ok]
    rw [run_equalIn_int w 9998 f0.type _ _ _ _ t0]; simp only [Result.andThen_ok]
    simp only [beq_self_eq_true, Bool.not_true, Bool.false_eq_true, if_false, Sem.run_bind]
    rw [run_part_b t1 w _ _ (.bool b) (by simp)]; simp only [Result.andThen_ok]
    rw [run_part_b t1 w _ _ (.bool b) (by simp)]; simp only [Result.andThen_ok]
    rw [run_equalIn_bool' w 9998 f1.type _ _ t1]; simp only [Result.andThen_ok]
    simp
  rw [run_neq_struct, h]; rfl
end Go.Proofs.YtbjglcdoekbloaaGreatDoor

/- the document's Same of records; the law's plans. -/
namespace Go.Proofs.YtbjglcdoekbloaaGreatDoor
open Go.RowKit Go.Proofs.YtbjglcdoekbloaaGreatDoor.MapRaw Go.ChangeMaps

set_option maxRecDepth 100000 in
set_option maxHeartbeats 2000000 in
theorem ref13_same {D D' : Nat → Prop} (r : Rec) (lv pv lv' pv' : Value) (w : World) (hl : SlL w D lv r.lab) (hp : SlE w D pv r.pts) (hl' : SlL w D' lv' r.lab) (hp' : SlE w D' pv' r.pts) :
    Calls Tryz.prog 48 #[.agg #[.int .i64 r.kind, .int .u32 r.ref, lv, pv], .agg #[.int .i64 r.kind, .int .u32 r.ref, lv', pv']] w fun e w' => e = .returned (.bool true) ∧ Below w.heap.size w w' := by
  have hsame := same_lab w hl hl'
  have HSame := Lib.hid hsame
  obtain ⟨rk, rr, lab, pts⟩ := r
  simp only at *
  obtain ⟨A1, c1, rfl, -⟩ := hl
  obtain ⟨A2, c2, rfl, -⟩ := hl'
  obtain ⟨A3, c3, rfl, p1, p2, -, -, p5⟩ := hp
  obtain ⟨A4, c4, rfl, -, -, -, -, q5⟩ := hp'
  have HP := Lib.hid p5
  have HQ := Lib.hid q5
  have hm9 : pts.length ≤ 9223372036854775807 := by simp only [maxLen] at p2; omega
  generalize lab.length = n1 at *
  obtain ⟨n, hn⟩ : ∃ n, n = pts.length := ⟨_, rfl⟩
  have Hn := Lib.hid hn
  rw [← hn] at hm9 ⊢
  have hbA : Below w.heap.size w ((w.alloc (.cells #[.int .i64 rk, .int .u32 rr, .slice A1 n1 c1, .slice A3 n c3] 45)).alloc (.cells #[.int .i64 rk, .int .u32 rr, .slice A2 n1 c2, .slice A4 n c4] 45)) := balloc (balloc (Below.refl _ _) _) _
  have za := blk_below (blk_new w (.cells #[.int .i64 rk, .int .u32 rr, .slice A1 n1 c1, .slice A3 n c3] 45 (0, 0))) (balloc (Below.refl _ _) (.cells #[.int .i64 rk, .int .u32 rr, .slice A2 n1 c2, .slice A4 n c4] 45))
  have zb := heap_alloc2_new w (.cells #[.int .i64 rk, .int .u32 rr, .slice A1 n1 c1, .slice A3 n c3] 45) (.cells #[.int .i64 rk, .int .u32 rr, .slice A2 n1 c2, .slice A4 n c4] 45 (0, 0))
  have a3 : ((w.alloc (.cells #[.int .i64 rk, .int .u32 rr, .slice A1 n1 c1, .slice A3 n c3] 45)).alloc (.cells #[.int .i64 rk, .int .u32 rr, .slice A2 n1 c2, .slice A4 n c4] 45)).cell? ⟨w.heap.size, 3, none⟩ = some (.slice A3 n c3) := (blk_cell za 3).trans rfl
  have b3 : ((w.alloc (.cells #[.int .i64 rk, .int .u32 rr, .slice A1 n1 c1, .slice A3 n c3] 45)).alloc (.cells #[.int .i64 rk, .int .u32 rr, .slice A2 n1 c2, .slice A4 n c4] 45)).cell? ⟨w.heap.size + 1, 3, none⟩ = some (.slice A4 n c4) := (blk_cell zb 3).trans rfl
  have HBA := Lib.hid hbA
  have hne1 : (rk != rk) = false := by simp
  have hne2 : (rr != rr) = false := by simp
  clear hsame p1 p2 p5 q5 hn za zb hbA
  go_enter Tryz.func48, Tryz.ntmps48
  go_wp2_with fail
  refine (HSame.out _ HBA.out).mono ?_
  rintro e w1 ⟨rfl, hb⟩
  have x3 := later hb a3
  have y3 := later hb b3
  have HB1 := Lib.hid (bthen HBA.out hb)
  clear hb a3 b3
  go_wp2_with fail
  go_loopw [38] (fun i wr => ∃ k : Nat, k ≤ n ∧ i = .int .i64 k ∧ Below w1.heap.size w1 wr) (fun i _ => n - (intOf i).toNat)
  case atStart => exact ⟨0, Nat.zero_le _, rfl, Below.refl _ _⟩
  case round =>
    obtain ⟨k, hk, rfl, hB⟩ := hrel
    have HBr := Lib.hid hB
    have HBx := Lib.hid (bthen HB1.out hB)
    have u3 := later hB x3
    have v3 := later hB y3
    by_cases hlt : k < n
    · have hkl : k < pts.length := by rw [← Hn.out]; exact hlt
      obtain ⟨b, off, e1, z0, z1, z2, z3⟩ := rdE_at (Rd.below HP.out HBx.out) hkl
      cases e1
      obtain ⟨b', off', e2, s0, s1, s2, s3⟩ := rdE_at (Rd.below HQ.out HBx.out) hkl
      cases e2
      generalize pts[k] = x at *
      obtain ⟨xr, ⟨xT, xV, xS⟩⟩ := x
      simp only at z0 z1 z2 z3 s0 s1 s2 s3
      have hq := fun w => run_neq_en_same w xr xT xV xS
      have hg := fun w op x y xs ys => run_guard_en w op x y xs ys
      have hi0 : (0 : Int) ≤ (k : Int) := by omega
      have hi1 : (k : Int) < (n : Int) := by omega
      clear hB
      go_wp2_with fail
      go_quiet (fail)
      go_wp2_with fail
      go_roundw
      case rel => exact ⟨k + 1, by omega, by go_num, bdr HBr.out _⟩
      case measure => simp [intOf] <;> omega
    · clear hB
      go_wp2_with fail
      go_ret
      exact ⟨rfl, HBx.out⟩
set_option maxRecDepth 100000 in
set_option maxHeartbeats 2000000 in
theorem law_plans {D D' : Nat → Prop} (av bv mv nv : Value) (al bl : List RecV) (ml : List Mk) (w : World) (ha : Slc 4 RecV.enc w D av al) (hb : Slc 4 RecV.enc w D' bv bl) (hao : RecOk w D al) (hbo : RecOk w D' bl) (hr : al.map RecV.r = bl.map RecV.r) (hm : Slc 2 Mk.enc w D mv ml) (hn : Slc 2 Mk.enc w D' nv ml) :
    Calls Tryz.prog 13 #[av, bv, mv, nv] w fun e w' => e = .returned (.bool true) ∧ Below w.heap.size w w' := by
  have hlen : al.length = bl.length := by have := congrArg List.length hr; simpa using this
  obtain ⟨A1, c1, rfl, p1, p2, -, -, p5⟩ := ha
  obtain ⟨A2, c2, rfl, -, -, -, -, q5⟩ := hb
  obtain ⟨A3, c3, rfl, r1, r2, -, -, r5⟩ := hm
  obtain ⟨A4, c4, rfl, -, -, -, -, s5⟩ := hn
  have HP := Lib.hid p5
  have HQ := Lib.hid q5
  have HM := Lib.hid r5
  have HN := Lib.hid s5
  have HAo := Lib.hid hao
  have HBo := Lib.hid hbo
  have HR := Lib.hid hr
  have h9 : al.length ≤ 9223372036854775807 := by simp only [maxLen] at p2; omega
  have g9 : ml.length ≤ 9223372036854775807 := by simp only [maxLen] at r2; omega
  obtain ⟨n, hnn⟩ : ∃ n, n = al.length := ⟨_, rfl⟩
  have hnb : n = bl.length := hnn.trans hlen
  obtain ⟨m, hmm⟩ : ∃ m, m = ml.length := ⟨_, rfl⟩
  have Hn := Lib.hid hnn
  have Hnb := Lib.hid hnb
  have Hm := Lib.hid hmm
  rw [← hnn, ← hnb, ← hmm]
  rw [← hnn] at h9
  rw [← hmm] at g9
  clear hlen p1 p2 p5 q5 r1 r2 r5 s5 hao hbo hr hnn hnb hmm
  go_enter Tryz.func13, Tryz.ntmps13
  go_wp2_with fail
  go_loopw [25] (fun i wr => ∃ k : Nat, k ≤ n ∧ i = .int .i64 k ∧ Below w.heap.size w wr) (fun i _ => n - (intOf i).toNat)
  case atStart => exact ⟨0, Nat.zero_le _, rfl, Below.refl _ _⟩
  case round =>
    obtain ⟨k, hk, rfl, hB⟩ := hrel
    have HBr := Lib.hid hB
    by_cases hlt : k < n
    · have hkl : k < al.length := by rw [← Hn.out]; exact hlt
      have hkb : k < bl.length := by rw [← Hnb.out]; exact hlt
      obtain ⟨b, off, e1, z0, z1, z2, z3⟩ := rdR_at (Rd.below HP.out hB) hkl
      cases e1
      obtain ⟨b', off', e2, s0, s1, s2, s3⟩ := rdR_at (Rd.below HQ.out hB) hkb
      cases e2
      have hx := HAo.out _ (List.getElem_mem hkl)
      have hy := HBo.out _ (List.getElem_mem hkb)
      have hxy : al[k].r = bl[k].r := by
        have := congrArg (fun l => l[k]?) HR.out
        simpa [List.getElem?_eq_getElem hkl, List.getElem?_eq_getElem hkb] using this
      generalize al[k] = x at *
      generalize bl[k] = y at *
      obtain ⟨r, xlv, xpv⟩ := x
      obtain ⟨r', ylv, ypv⟩ := y
      simp only at z0 z1 z2 z3 s0 s1 s2 s3 hx hy hxy
      subst hxy
      have hsame := fun (W : World) (hW : Below w.heap.size w W) => ref13_same r xlv xpv ylv ypv W (hx.1.below hW) (hx.2.below hW) (hy.1.below hW) (hy.2.below hW)
      have HSame := Lib.hid hsame
      obtain ⟨⟨A5, c5, rfl, -⟩, ⟨A6, c6, rfl, -⟩⟩ := hx
      obtain ⟨⟨A7, c7, rfl, -⟩, ⟨A8, c8, rfl, -⟩⟩ := hy
      obtain ⟨rk, rr, lab, pts⟩ := r
      simp only at z0 z1 z2 z3 s0 s1 s2 s3 HSame
      generalize lab.length = n5 at *
      generalize pts.length = n6 at *
      have f0 : wr.drew.cell? ⟨b, off + k * 4, none⟩ = some (.int .i64 rk) := z0
      have f1 : wr.drew.cell? ⟨b, off + k * 4 + 1, none⟩ = some (.int .u32 rr) := z1
      have f2 : wr.drew.cell? ⟨b, off + k * 4 + 2, none⟩ = some (.slice A5 n5 c5) := z2
      have f3 : wr.drew.cell? ⟨b, off + k * 4 + 3, none⟩ = some (.slice A6 n6 c6) := z3
      have g0 : wr.drew.cell? ⟨b', off' + k * 4, none⟩ = some (.int .i64 rk) := s0
      have g1 : wr.drew.cell? ⟨b', off' + k * 4 + 1, none⟩ = some (.int .u32 rr) := s1
      have g2 : wr.drew.cell? ⟨b', off' + k * 4 + 2, none⟩ = some (.slice A7 n5 c7) := s2
      have g3 : wr.drew.cell? ⟨b', off' + k * 4 + 3, none⟩ = some (.slice A8 n6 c8) := s3
      have hi0 : (0 : Int) ≤ (k : Int) := by omega
      have hi1 : (k : Int) < (n : Int) := by omega
      clear hB hsame z0 z1 z2 z3 s0 s1 s2 s3
      go_wp2_with fail
      go_region_held3 (fun w' => (w'.cell? ⟨b, off + k * 4, none⟩ = some (.int .i64 rk) ∧ w'.cell? ⟨b, off + k * 4 + 1, none⟩ = some (.int .u32 rr) ∧ w'.cell? ⟨b, off + k * 4 + 2, none⟩ = some (.slice A5 n5 c5) ∧ w'.cell? ⟨b, off + k * 4 + 3, none⟩ = some (.slice A6 n6 c6)) ∧ (w'.cell? ⟨b', off' + k * 4, none⟩ = some (.int .i64 rk) ∧ w'.cell? ⟨b', off' + k * 4 + 1, none⟩ = some (.int .u32 rr) ∧ w'.cell? ⟨b', off' + k * 4 + 2, none⟩ = some (.slice A7 n5 c7) ∧ w'.cell? ⟨b', off' + k * 4 + 3, none⟩ = some (.slice A8 n6 c8))) (first | exact ⟨⟨f0, f1, f2, f3⟩, ⟨g0, g1, g2, g3⟩⟩ | exact ⟨⟨later hb' f0, later hb' f1, later hb' f2, later hb' f3⟩, ⟨later hb' g0, later hb' g1, later hb' g2, later hb' g3⟩⟩)
        (first | (go_at_call 48; refine (HSame.out _ (bthen HBr.out (bdrew (Below.refl _ _)))).mono ?_; rintro e w' ⟨rfl, hb'⟩))
      have HB2 := Lib.hid (bthen HBr.out (bthen (bdrew (Below.refl _ _)) hb'))
      clear f0 f1 f2 f3 g0 g1 g2 g3 hb'
      go_wp2_with fail
      go_roundw
      case rel => exact ⟨k + 1, by omega, by go_num, HB2.out⟩
      case measure => simp [intOf] <;> omega
    · clear hB
      go_wp2_with fail
      generalize wr = wa at *
      go_loopw [41] (fun i wr => ∃ k : Nat, k ≤ m ∧ i = .int .i64 k ∧ Below w.heap.size w wr) (fun i _ => m - (intOf i).toNat)
      case atStart => exact ⟨0, Nat.zero_le _, rfl, HBr.out⟩
      case round =>
        obtain ⟨k, hk, rfl, hB⟩ := hrel
        have HBs := Lib.hid hB
        by_cases hlt : k < m
        · have hkl : k < ml.length := by rw [← Hm.out]; exact hlt
          obtain ⟨b, off, e1, hz⟩ := (Rd.below HM.out hB) k ml[k] (List.getElem?_eq_getElem hkl)
          cases e1
          obtain ⟨b', off', e2, hs⟩ := (Rd.below HN.out hB) k ml[k] (List.getElem?_eq_getElem hkl)
          cases e2
          generalize ml[k] = x at *
          obtain ⟨xa, xo⟩ := x
          have z0 := hz 0 _ rfl
          have z1 := hz 1 _ rfl
          have s0 := hs 0 _ rfl
          have s1 := hs 1 _ rfl
          simp only [Nat.add_zero] at z0 z1 s0 s1
          have hq := fun w => run_neq_mk_same w xa xo
          have hg := fun w op x y xs ys => run_guard_mk w op x y xs ys
          have hi0 : (0 : Int) ≤ (k : Int) := by omega
          have hi1 : (k : Int) < (m : Int) := by omega
          clear hB hz hs
          go_wp2_with fail
          go_quiet (fail)
          go_wp2_with fail
          go_roundw
          case rel => exact ⟨k + 1, by omega, by go_num, bdr HBs.out _⟩
          case measure => simp [intOf] <;> omega
        · clear hB
          go_wp2_with fail
          go_ret
          exact ⟨rfl, HBs.out⟩
end Go.Proofs.YtbjglcdoekbloaaGreatDoor
