import Derived.Test.YtbjglcdoekbloaaGreatDoorGRqA
import Derived.Test.YtbjglcdoekbloaaGreatDoorGRwC
import Derived.Test.YtbjglcdoekbloaaGreatDoorGRwE
import Derived.Lib.MinMax
set_option linter.unusedSimpArgs false
set_option linter.unusedVariables false
set_option linter.unusedSectionVars false
/- the document's head: Clone, wrong. -/
namespace Go.Proofs.YtbjglcdoekbloaaGreatDoor
open Go.RowKit Go.Proofs.YtbjglcdoekbloaaGreatDoor.MapRaw Go.ChangeMaps

def RClonePost (w : World) (K : List Ky) (e : Ending) (w' : World) : Prop := ∃ xp v l, e = .returned (.pointer (some ⟨xp, 0, none⟩)) ∧ RNew w xp v l w' ∧ l.map Sr.key = K
set_option maxRecDepth 100000 in
set_option maxHeartbeats 1000000 in
theorem ref14_clone {D D' : Nat → Prop} (xp : Nat) (v : Value) (l : List Sr) (w : World) (hc : w.cell? ⟨xp, 0, none⟩ = some v) (hv : Slc 3 Sr.enc w D v l) (hl : SrOk w D' l) (hn9 : l.length ≤ 1000000) (h6 : ∀ x ∈ l, x.lab.length ≤ 1000000 ∧ x.pts.length ≤ 1000000) :
    Calls Tryz.prog 42 #[.pointer (some ⟨xp, 0, none⟩)] w (RClonePost w (l.map Sr.key)) := by
  have hcp := ref14_copied v l w hv hl hn9 h6
  have HC := Lib.hid hcp
  clear hcp hv hl h6
  go_enter Tryz.func42, Tryz.ntmps42
  go_wp2_with fail
  refine HC.out.mono ?_
  rintro e w2 ⟨v2, l2, rfl, hS, hK⟩
  have HN := Lib.hid (rnew_of (Below.refl _ _) hS)
  have HK := Lib.hid hK
  obtain ⟨A2, c2, rfl⟩ := own_slice hS.own
  clear hS hK
  go_wp2_with fail
  go_ret
  exact ⟨_, _, _, rfl, HN.out, HK.out⟩
theorem max_u32 {l : List Sr} (hu : ∀ x ∈ l, U32 x.ref) : ∀ k, U32 (maxK ((l.take k).map Sr.key)) := by
  intro k
  induction k with
  | zero => simp only [List.take_zero, List.map_nil]; exact ⟨by decide, by decide⟩
  | succ k ih =>
    by_cases hk : k < l.length
    · rw [max_take l k hk]
      have := hu _ (List.getElem_mem hk)
      unfold U32 at *
      omega
    · rw [List.take_of_length_le (by omega)]
      rw [List.take_of_length_le (by omega)] at ih
      exact ih
set_option maxRecDepth 100000 in
set_option maxHeartbeats 4000000 in
theorem ref14_wrong {D D' D2 : Nat → Prop} (xp : Nat) (v pv : Value) (l : List Sr) (seq : Int) (ps : List Po) (w : World) (hc : w.cell? ⟨xp, 0, none⟩ = some v) (hv : Slc 3 Sr.enc w D v l) (hl : SrOk w D' l) (hpv : Slc 4 Po.enc w D2 pv ps) (hpo : PoOk w D2 ps) (hn : l.length ≤ 4096) (h65 : ∀ x ∈ l, x.pts.length ≤ 65536) (hu : ∀ x ∈ l, U32 x.ref) :
    Calls Tryz.prog 41 #[.pointer (some ⟨xp, 0, none⟩), .int .u64 seq, pv] w fun e w' => e = .returned (.int .i64 (wrongK (l.map Sr.key) seq ps)) ∧ Below w.heap.size w w' := by
  have hwr : wrongK (l.map Sr.key) seq ps = if 16 < ps.length then 3 else if seq = 0 then 1 else if labsErr ps ≠ 0 then labsErr ps
    else if ps.any (fullK (l.map Sr.key) ps) = true ∨ 4096 < l.length + freshL (l.map Sr.key) ps ∨ 4294967295 < maxK (l.map Sr.key) + freshL (l.map Sr.key) ps then 5 else 0 := by
    unfold wrongK; rw [List.length_map]
  have hat := fun (q : List Lb) (qv : Value) (W : World) (hW : Below w.heap.size w W) (hq : SlL w D2 qv q) => ref14_at xp v qv l q W (later hW hc) (hv.below hW) (hl.below hW) (hq.below hW)
  have HAt := Lib.hid hat
  have HL := Lib.hid hl
  have HPo := Lib.hid hpo
  have H65 := Lib.hid h65
  have HU := Lib.hid hu
  have HMx := Lib.hid (max_u32 hu)
  obtain ⟨A, c, rfl, p1, p2, p3, p4, p5⟩ := hv
  obtain ⟨A1, c1, rfl, q1, q2, q3, q4, q5⟩ := hpv
  have HR := Lib.hid p5
  have HRp := Lib.hid q5
  have hm9 : ps.length ≤ 9223372036854775807 := by simp only [maxLen] at q2; omega
  generalize wrongK (l.map Sr.key) seq ps = res at *
  obtain ⟨n, hnn⟩ : ∃ n, n = l.length := ⟨_, rfl⟩
  obtain ⟨m, hmm⟩ : ∃ m, m = ps.length := ⟨_, rfl⟩
  have Hn := Lib.hid hnn
  have Hm := Lib.hid hmm
  rw [← hnn] at hn hc
  rw [← hmm] at hm9 ⊢
  clear hat hl hpo h65 hu p1 p2 p3 p4 p5 q1 q2 q3 q4 q5
  by_cases h16 : 16 < m
  · have hres : res = 3 := by rw [hwr, if_pos (by omega)]
    have HRes := Lib.hid hres
    have h16' : (16 : Int) < (m : Int) := by omega
    clear hwr hres hnn hmm
    go_enter Tryz.func41, Tryz.ntmps41
    go_wp2_with fail
    go_ret
    exact ⟨ret_int HRes.out.symm, Below.refl _ _⟩
  · rw [if_neg (by omega)] at hwr
    have h16' : ¬ (16 : Int) < (m : Int) := by omega
    by_cases h0 : seq = 0
    · have hres : res = 1 := by rw [hwr, if_pos h0]
      have HRes := Lib.hid hres
      subst h0
      clear hwr hres hnn hmm h16
      go_enter Tryz.func41, Tryz.ntmps41
      go_wp2_with fail
      go_ret
      exact ⟨ret_int HRes.out.symm, Below.refl _ _⟩
    · rw [if_neg h0] at hwr
      have hs0 : (seq == 0) = false := by simpa using h0
      have HWr := Lib.hid hwr
      have C0 := Lib.hid hc
      clear hwr hnn hmm h16 h0 hc
      go_enter Tryz.func41, Tryz.ntmps41
      go_wp2_with fail
      go_loopw [28] (fun i wr => ∃ k : Nat, k ≤ m ∧ i = .int .i64 k ∧ LabsTo ps k ∧ Below w.heap.size w wr) (fun i _ => m - (intOf i).toNat)
      case atStart => exact ⟨0, Nat.zero_le _, rfl, LabsTo.start _, Below.refl _ _⟩
      case round =>
        obtain ⟨k, hk, rfl, hE, hB⟩ := hrel
        have HBr := Lib.hid hB
        by_cases hlt : k < m
        · have hkl : k < ps.length := by rw [← Hm.out]; exact hlt
          obtain ⟨b, off, rfl, z0, z1, z2, z3⟩ := rdO_at (Rd.below HRp.out hB) hkl
          have hx := HPo.out _ (List.getElem_mem hkl)
          have hRd := hE.round hkl
          generalize ps[k] = z at *
          obtain ⟨zat, zv, lab, zT, zV⟩ := z
          simp only at z0 z1 z2 z3 hx hRd
          obtain ⟨⟨A4, c4, rfl, a1, a2, -, -, a5⟩, hzx⟩ := hx
          have HBw : Hid (Below wr.heap.size wr (wr.alloc (.cells #[.int .i64 zat, .slice A4 lab.length c4, .int .i64 zT, .int .u64 zV] 77))) := Lib.hid (balloc (Below.refl _ _) _)
          have hrl := ref05_right A4 c4 lab _ (Rd.below a5 (bthen hB HBw.out)) (by omega) hzx
          generalize lab.length = n4 at *
          clear a1 a2 a5 hE hB hzx
          rcases hRd with ⟨g1, g2⟩ | ⟨g1, g2⟩
          · have hres : res = rightF lab := by rw [HWr.out, g2, if_pos g1]
            have HRes := Lib.hid hres
            have HRl := Lib.hid hrl
            have hq : (rightF lab != 0) = true := by simpa using g1
            clear g1 g2 hres hrl
            generalize rightF lab = q at *
            go_wp2_with fail
            refine HRl.out.mono ?_
            rintro e w1 ⟨rfl, hb⟩
            have HB1 := Lib.hid (bthen (bthen HBr.out HBw.out) hb)
            clear hb
            go_wp2_with fail
            go_ret
            exact ⟨ret_int HRes.out.symm, HB1.out⟩
          · rw [g1] at hrl
            have HRl := Lib.hid hrl
            have G2 := Lib.hid g2
            clear g1 g2 hrl
            go_wp2_with fail
            refine HRl.out.mono ?_
            rintro e w1 ⟨rfl, hb⟩
            have HB1 := Lib.hid (bthen (bthen HBr.out HBw.out) hb)
            clear hb
            go_wp2_with fail
            go_roundw
            case rel => exact ⟨k + 1, by omega, by go_num, G2.out, HB1.out⟩
            case measure => simp [intOf] <;> omega
        · have hl0 := (hE.done (by rw [← Hm.out]; exact hlt)).1
          have hres := HWr.out
          rw [if_neg (by simp [hl0])] at hres
          have HRes := Lib.hid hres
          have c1 := later hB C0.out
          clear hE hB hl0 hres HWr
          go_wp2_with fail
          generalize wr = wa at *
          go_loopw [11, 44] (fun s i wr => ∃ k : Nat, k ≤ n ∧ i = .int .i64 k ∧ s = .int .u32 (maxK ((l.take k).map Sr.key)) ∧ Below wa.heap.size wa wr) (fun _ i _ => n - (intOf i).toNat)
          case atStart => exact ⟨0, Nat.zero_le _, rfl, rfl, Below.refl _ _⟩
          case round =>
            obtain ⟨k, hk, rfl, rfl, hB⟩ := hrel
            have HBc := Lib.hid (bthen HBr.out hB)
            have HBa := Lib.hid hB
            by_cases hlt : k < n
            · have hkl : k < l.length := by rw [← Hn.out]; exact hlt
              obtain ⟨b, off, rfl, z0, z1, z2⟩ := rdSr_at (Rd.below HR.out HBc.out) hkl
              have hx := HL.out _ (List.getElem_mem hkl)
              have hmt := max_take l k hkl
              generalize l[k] = z at *
              obtain ⟨zr, zlv, lab, zpv, pts⟩ := z
              simp only at z0 z1 z2 hx hmt
              obtain ⟨⟨A4, c4, rfl, -⟩, ⟨A5, c5, rfl, -⟩⟩ := hx
              generalize lab.length = n4 at *
              generalize pts.length = n5 at *
              have HBw : Hid (Below wr.heap.size wr (wr.alloc (.cells #[.int .u32 zr, .slice A4 n4 c4, .slice A5 n5 c5] 66))) := Lib.hid (balloc (Below.refl _ _) _)
              have HMt := Lib.hid hmt
              clear hmt hB c1
              generalize maxK ((l.take k).map Sr.key) = mx at *
              go_wp2_with fail
              go_roundw
              case rel => exact ⟨k + 1, by omega, by go_num, by rw [HMt.out], bthen HBa.out HBw.out⟩
              case measure => simp [intOf] <;> omega
            · have hkk : l.take k = l := List.take_of_length_le (by rw [← Hn.out]; omega)
              rw [hkk]
              have hmu := HMx.out l.length
              rw [List.take_length] at hmu
              have HMu := Lib.hid hmu
              have cx := later hB c1
              clear hkk hB hmu c1
              go_wp2_with fail
              generalize wr = wb at *
              go_loopw [10, 55] (fun s i wr => ∃ k : Nat, k ≤ m ∧ i = .int .i64 k ∧ s = .int .i64 (freshL (l.map Sr.key) (ps.take k)) ∧ AnyTo (fullK (l.map Sr.key) ps) ps k ∧ Below wb.heap.size wb wr) (fun _ i _ => m - (intOf i).toNat)
              case atStart => exact ⟨0, Nat.zero_le _, rfl, rfl, AnyTo.start _ _, Below.refl _ _⟩
              case round =>
                obtain ⟨i, hi, rfl, rfl, hE, hB⟩ := hrel
                have HBd := Lib.hid (bthen HBc.out hB)
                have HBe := Lib.hid hB
                have cx1 := later hB cx
                by_cases hlt : i < m
                · have hil : i < ps.length := by rw [← Hm.out]; exact hlt
                  obtain ⟨b, off, rfl, z0, z1, z2, z3⟩ := rdO_at (Rd.below HRp.out HBd.out) hil
                  have hx := HPo.out _ (List.getElem_mem hil)
                  have hRd := hE.round hil
                  have hft := fresh_take (l.map Sr.key) ps i hil
                  have hfl := fresh_le (l.map Sr.key) ps i
                  generalize ps[i] = z at *
                  obtain ⟨zat, zv, lab, zT, zV⟩ := z
                  simp only at z0 z1 z2 z3 hx hft
                  have HLz := Lib.hid hx.1
                  have HFt := Lib.hid hft
                  have HRd := Lib.hid hRd
                  obtain ⟨⟨A4, c4, rfl, -⟩, -⟩ := hx
                  generalize lab.length = n4 at *
                  have HBw : Hid (Below wr.heap.size wr (wr.alloc (.cells #[.int .i64 zat, .slice A4 n4 c4, .int .i64 zT, .int .u64 zV] 77))) := Lib.hid (balloc (Below.refl _ _) _)
                  have v1 : (wr.alloc (.cells #[.int .i64 zat, .slice A4 n4 c4, .int .i64 zT, .int .u64 zV] 77)).cell? ⟨wr.heap.size, 1, none⟩ = some (.slice A4 n4 c4) := by simp
                  have V1 := Lib.hid v1
                  have CX1 := Lib.hid (later HBw.out cx1)
                  clear hE hB hRd hft v1 cx1
                  generalize freshL (l.map Sr.key) (ps.take i) = fr at *
                  go_wp2_with fail
                  generalize wr.alloc (.cells #[.int .i64 zat, .slice A4 n4 c4, .int .i64 zT, .int .u64 zV] 77) = Wp at *
                  clear z0 z1 z2 z3
                  go_loopw [16, 17, 62] (fun s t x wr => ∃ j : Nat, j ≤ m ∧ x = .int .i64 j ∧ s = .int .i64 (cntL (ps.take j) lab) ∧ t = .bool (aheadL ps i j lab) ∧ Below Wp.heap.size Wp wr) (fun _ _ x _ => m - (intOf x).toNat)
                  case atStart => exact ⟨0, Nat.zero_le _, rfl, by simp [cntL], by simp [aheadL], Below.refl _ _⟩
                  case round =>
                    obtain ⟨j, hj, rfl, rfl, rfl, hB4⟩ := hrel
                    have HB4 := Lib.hid hB4
                    have HBx := Lib.hid (bthen (bthen HBd.out HBw.out) hB4)
                    have vz := later hB4 V1.out
                    have hcl := cntL_le ps lab j
                    by_cases hjt : j < m
                    · have hjl : j < ps.length := by rw [← Hm.out]; exact hjt
                      obtain ⟨b2, off2, e2, y0, y1, y2, y3⟩ := rdO_at (Rd.below HRp.out HBx.out) hjl
                      cases e2
                      have hy := HPo.out _ (List.getElem_mem hjl)
                      have hct := cntL_take ps lab j hjl
                      have hat2 := ahead_take ps i j lab hjl
                      generalize ps[j] = y at *
                      obtain ⟨yat, yv, ylab, yT, yV⟩ := y
                      simp only at y0 y1 y2 y3 hy hct hat2
                      have hsame := lab_same w HLz.out hy.1
                      obtain ⟨⟨A6, c6, rfl, -⟩, -⟩ := hy
                      generalize ylab.length = n6 at *
                      have HBu : Hid (Below wr.heap.size wr (wr.alloc (.cells #[.int .i64 yat, .slice A6 n6 c6, .int .i64 yT, .int .u64 yV] 77))) := Lib.hid (balloc (Below.refl _ _) _)
                      have vz2 := later HBu.out vz
                      clear hB4
                      by_cases hxz : ylab = lab
                      · subst hxz
                        rw [if_pos rfl] at hct
                        simp only [decide_true, Bool.true_and] at hat2 hsame
                        have HCt := Lib.hid hct
                        have HSame := Lib.hid hsame
                        generalize ha : aheadL ps i j ylab = a at *
                        generalize cntL (ps.take j) ylab = cn at *
                        clear hct hsame ha
                        cases a with
                        | true =>
                          rw [Bool.true_or] at hat2
                          have HA2 := Lib.hid hat2
                          clear hat2
                          go_wp2_with fail
                          refine (HSame.out _ (bthen HBx.out HBu.out)).mono ?_
                          rintro e w1 ⟨rfl, hb⟩
                          have HB1 := Lib.hid (bthen (bthen HB4.out HBu.out) hb)
                          clear hb
                          go_wp2_with fail
                          go_roundw
                          case rel => exact ⟨j + 1, by omega, by go_num, by rw [HCt.out]; go_num, by rw [HA2.out], HB1.out⟩
                          case measure => simp [intOf] <;> omega
                        | false =>
                          rw [Bool.false_or] at hat2
                          have HA2 := Lib.hid hat2
                          clear hat2
                          by_cases hji : j < i
                          · have hd : decide ((j : Int) < (i : Int)) = true := by simpa using hji
                            have Hji := Lib.hid hji
                            clear hji
                            go_wp2_with fail
                            refine (HSame.out _ (bthen HBx.out HBu.out)).mono ?_
                            rintro e w1 ⟨rfl, hb⟩
                            have HB1 := Lib.hid (bthen (bthen HB4.out HBu.out) hb)
                            clear hb
                            go_wp2_with fail
                            go_roundw
                            case rel => exact ⟨j + 1, by omega, by go_num, by rw [HCt.out]; go_num, by rw [HA2.out, decide_eq_true Hji.out], HB1.out⟩
                            case measure => simp [intOf] <;> omega
                          · have hd : decide ((j : Int) < (i : Int)) = false := by simpa using hji
                            have Hji := Lib.hid hji
                            clear hji
                            go_wp2_with fail
                            refine (HSame.out _ (bthen HBx.out HBu.out)).mono ?_
                            rintro e w1 ⟨rfl, hb⟩
                            have HB1 := Lib.hid (bthen (bthen HB4.out HBu.out) hb)
                            clear hb
                            go_wp2_with fail
                            go_roundw
                            case rel => exact ⟨j + 1, by omega, by go_num, by rw [HCt.out]; go_num, by rw [HA2.out, decide_eq_false Hji.out], HB1.out⟩
                            case measure => simp [intOf] <;> omega
                      · have hxz2 : ¬ lab = ylab := fun e => hxz e.symm
                        rw [if_neg hxz, Nat.add_zero] at hct
                        simp only [hxz, hxz2, decide_false, Bool.false_and, Bool.or_false] at hat2 hsame
                        have HCt := Lib.hid hct
                        have HSame := Lib.hid hsame
                        have HA2 := Lib.hid hat2
                        generalize aheadL ps i j lab = a at *
                        generalize cntL (ps.take j) lab = cn at *
                        clear hct hsame hat2 hxz hxz2
                        go_wp2_with fail
                        refine (HSame.out _ (bthen HBx.out HBu.out)).mono ?_
                        rintro e w1 ⟨rfl, hb⟩
                        have HB1 := Lib.hid (bthen (bthen HB4.out HBu.out) hb)
                        clear hb
                        go_wp2_with fail
                        go_roundw
                        case rel => exact ⟨j + 1, by omega, by go_num, by rw [HCt.out]; simp, by rw [HA2.out], HB1.out⟩
                        case measure => simp [intOf] <;> omega
                    · have hjm : j = m := by omega
                      have hkk : ps.take j = ps := List.take_of_length_le (by rw [← Hm.out]; omega)
                      have hah := ahead_done ps i lab (by rw [← Hm.out]; omega)
                      rw [← Hm.out, ← hjm] at hah
                      rw [hkk, hah] at *
                      have ck := later hB4 CX1.out
                      have hcall := HAt.out lab (.slice A4 n4 c4) wr HBx.out HLz.out
                      have HAh := Lib.hid hah
                      generalize ((ps.take i).any fun q => decide (q.lab = lab)) = a at *
                      rcases find_idx (l := l) (lab := lab) with ⟨f1, f2⟩ | ⟨jx, hjx, f1, f2⟩
                      · have hfk : fullK (l.map Sr.key) ps ⟨zat, .slice A4 n4 c4, lab, zT, zV⟩ = false := by unfold fullK; rw [f2]
                        have hnx : AnyTo (fullK (l.map Sr.key) ps) ps (i + 1) := by
                          rcases HRd.out with ⟨g1, _⟩ | ⟨_, g2⟩
                          · rw [hfk] at g1; cases g1
                          · exact g2
                        have hhl : hasLab (l.map Sr.key) lab = false := by rw [has_key, f2]; rfl
                        rw [f1] at hcall
                        have HCall := Lib.hid hcall
                        have Hnx := Lib.hid hnx
                        have hft := HFt.out
                        rw [hhl] at hft
                        clear hcall hnx hfk f1 f2 hhl hB4 hkk hah
                        cases a with
                        | true =>
                          rw [if_pos (.inr rfl)] at hft
                          have HF2 := Lib.hid hft
                          clear hft
                          generalize cntL ps lab = cn at *
                          go_wp2_with fail
                          refine HCall.out.mono ?_
                          rintro e w1 ⟨rfl, hb⟩
                          have HB1 := Lib.hid (bthen (bthen HBw.out HB4.out) hb)
                          clear hb
                          simp only [ixF]
                          go_wp2_with fail
                          go_roundw
                          case rel => exact ⟨i + 1, by omega, by go_num, by rw [HF2.out], Hnx.out, bthen HBe.out HB1.out⟩
                          case measure => simp [intOf] <;> omega
                        | false =>
                          rw [if_neg (by simp)] at hft
                          have HF2 := Lib.hid hft
                          clear hft
                          generalize cntL ps lab = cn at *
                          go_wp2_with fail
                          refine HCall.out.mono ?_
                          rintro e w1 ⟨rfl, hb⟩
                          have HB1 := Lib.hid (bthen (bthen HBw.out HB4.out) hb)
                          clear hb
                          simp only [ixF]
                          go_wp2_with fail
                          go_roundw
                          case rel => exact ⟨i + 1, by omega, by go_num, by rw [HF2.out]; go_num, Hnx.out, bthen HBe.out HB1.out⟩
                          case measure => simp [intOf] <;> omega
                      · have hfk : fullK (l.map Sr.key) ps ⟨zat, .slice A4 n4 c4, lab, zT, zV⟩ = decide (65536 < l[jx].pts.length + cntL ps lab) := by unfold fullK; rw [f2]; rfl
                        have hhl : hasLab (l.map Sr.key) lab = true := by rw [has_key, f2]; rfl
                        obtain ⟨b3, off3, rfl, -, -, s2⟩ := rdSr_at (Rd.below HR.out HBx.out) hjx
                        have hx3 := HL.out _ (List.getElem_mem hjx)
                        have h653 := H65.out _ (List.getElem_mem hjx)
                        obtain ⟨-, ⟨A5, c5, e5, -⟩⟩ := hx3
                        rw [e5] at s2
                        have hjn : jx < n := by rw [Hn.out]; exact hjx
                        have hj0 : (0 : Int) ≤ (jx : Int) := by omega
                        have hj1 : (jx : Int) < (n : Int) := by omega
                        have hfr := HRd.out
                        rw [hfk] at hfr
                        rw [f1] at hcall
                        have HCall := Lib.hid hcall
                        have hft := HFt.out
                        rw [if_pos (.inl hhl)] at hft
                        have HF2 := Lib.hid hft
                        generalize l[jx].pts.length = n5 at *
                        have hsub : IntKind.i64.wrap (65536 - (n5 : Int)) = 65536 - (n5 : Int) := i64_small (by omega) (by omega)
                        clear hcall hfk f1 f2 hhl hft hB4 hkk hah e5 hjx
                        rcases hfr with ⟨g1, g2⟩ | ⟨g1, g2⟩
                        · have hgt : decide ((65536 : Int) - (n5 : Int) < (cntL ps lab : Int)) = true := by simp at g1; simp; omega
                          have hres : res = 5 := by rw [HRes.out, if_pos (.inl g2)]
                          have HR5 := Lib.hid hres
                          clear g1 g2 hres
                          generalize cntL ps lab = cn at *
                          go_wp2_with fail
                          refine HCall.out.mono ?_
                          rintro e w1 ⟨rfl, hb⟩
                          have HB1 := Lib.hid (bthen HBx.out hb)
                          have ck1 := later hb ck
                          have s21 := later hb s2
                          clear hb
                          simp only [ixF]
                          go_wp2_with fail
                          go_ret
                          exact ⟨ret_int HR5.out.symm, HB1.out⟩
                        · have hgt : decide ((65536 : Int) - (n5 : Int) < (cntL ps lab : Int)) = false := by simp at g1; simp; omega
                          have Hnx := Lib.hid g2
                          have hlt0 : decide ((jx : Int) < 0) = false := by simp
                          clear g1 g2
                          generalize cntL ps lab = cn at *
                          go_wp2_with fail
                          refine HCall.out.mono ?_
                          rintro e w1 ⟨rfl, hb⟩
                          have HB1 := Lib.hid (bthen (bthen HBw.out HB4.out) hb)
                          have ck1 := later hb ck
                          have s21 := later hb s2
                          clear hb
                          simp only [ixF]
                          go_wp2_with fail
                          go_roundw
                          case rel => exact ⟨i + 1, by omega, by go_num, by rw [HF2.out], Hnx.out, bthen HBe.out HB1.out⟩
                          case measure => simp [intOf] <;> omega
                · have hkk : ps.take i = ps := List.take_of_length_le (by rw [← Hm.out]; omega)
                  rw [hkk]
                  have hany := hE.done (by rw [← Hm.out]; exact hlt)
                  have hfl := fresh_le (l.map Sr.key) ps ps.length
                  rw [List.take_length, ← Hm.out] at hfl
                  have hmu := HMu.out
                  have hres := HRes.out
                  rw [hany, ← Hn.out] at hres
                  have HR6 := Lib.hid hres
                  clear hE hB hkk hany hres HRes cx
                  generalize freshL (l.map Sr.key) ps = fr at *
                  generalize maxK (l.map Sr.key) = mx at *
                  obtain ⟨m0, m1⟩ := hmu
                  have hs1 : IntKind.i64.wrap (4096 - (n : Int)) = 4096 - (n : Int) := i64_small (by omega) (by omega)
                  have hs2 : IntKind.u32.wrap (4294967295 - mx) = 4294967295 - mx := u32_wrap (by omega) (by omega)
                  have hs3 : IntKind.u32.wrap (fr : Int) = (fr : Int) := u32_wrap (by omega) (by omega)
                  by_cases h1 : (4096 : Int) - (n : Int) < (fr : Int)
                  · have hd1 : decide ((4096 : Int) - (n : Int) < (fr : Int)) = true := decide_eq_true h1
                    have hres : res = 5 := by rw [HR6.out, if_pos (.inr (.inl (by omega)))]
                    have HR5 := Lib.hid hres
                    clear h1 hres
                    go_wp2_with fail
                    go_ret
                    exact ⟨ret_int HR5.out.symm, HBd.out⟩
                  · have hd1 : decide ((4096 : Int) - (n : Int) < (fr : Int)) = false := decide_eq_false h1
                    by_cases h2 : (4294967295 : Int) - mx < (fr : Int)
                    · have hd2 : decide ((4294967295 : Int) - mx < (fr : Int)) = true := decide_eq_true h2
                      have hres : res = 5 := by rw [HR6.out, if_pos (.inr (.inr (by omega)))]
                      have HR5 := Lib.hid hres
                      clear h1 h2 hres
                      go_wp2_with fail
                      go_ret
                      exact ⟨ret_int HR5.out.symm, HBd.out⟩
                    · have hd2 : decide ((4294967295 : Int) - mx < (fr : Int)) = false := decide_eq_false h2
                      have hres : res = 0 := by
                        rw [HR6.out, if_neg]
                        rintro (h | h | h)
                        · cases h
                        · omega
                        · omega
                      have HR5 := Lib.hid hres
                      clear h1 h2 hres
                      go_wp2_with fail
                      go_ret
                      exact ⟨ret_int HR5.out.symm, HBd.out⟩
end Go.Proofs.YtbjglcdoekbloaaGreatDoor
