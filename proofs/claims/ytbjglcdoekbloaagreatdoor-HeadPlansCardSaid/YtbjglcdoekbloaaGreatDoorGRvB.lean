import Derived.Test.YtbjglcdoekbloaaGreatDoorGRvA
import Derived.Lib.FieldsU
import Derived.Test.YtbjglcdoekbloaaGreatDoorGIx
set_option linter.unusedSimpArgs false
set_option linter.unusedVariables false
set_option linter.unusedSectionVars false
/- plain: the reference's step is the decoder's. -/
namespace Go.Proofs.YtbjglcdoekbloaaGreatDoor

theorem more1 (s : ByteArray) (a : Nat) : moreB s (a + 1) 1 = (decide (a + 1 < s.size) && decide (byt s (a + 1) / 64 = 2)) := by
  unfold moreB
  rw [Bool.eq_iff_iff]
  simp only [Bool.and_eq_true, decide_eq_true_eq, List.all_eq_true, List.mem_range]
  constructor
  · rintro ⟨h1, h2⟩; exact ⟨by omega, h2 0 (by omega)⟩
  · rintro ⟨h1, h2⟩; exact ⟨by omega, fun i hi => by
      obtain rfl : i = 0 := by omega
      exact h2⟩
theorem more2 (s : ByteArray) (a : Nat) : moreB s (a + 1) 2 = (decide (a + 2 < s.size) && decide (byt s (a + 1) / 64 = 2) && decide (byt s (a + 2) / 64 = 2)) := by
  unfold moreB
  rw [Bool.eq_iff_iff]
  simp only [Bool.and_eq_true, decide_eq_true_eq, List.all_eq_true, List.mem_range]
  constructor
  · rintro ⟨h1, h2⟩; exact ⟨⟨by omega, h2 0 (by omega)⟩, h2 1 (by omega)⟩
  · rintro ⟨⟨h1, h2⟩, h3⟩; exact ⟨by omega, fun i hi => by
      rcases (show i = 0 ∨ i = 1 by omega) with rfl | rfl
      · exact h2
      · exact h3⟩
theorem more3 (s : ByteArray) (a : Nat) : moreB s (a + 1) 3 = (decide (a + 3 < s.size) && decide (byt s (a + 1) / 64 = 2) && decide (byt s (a + 2) / 64 = 2) && decide (byt s (a + 3) / 64 = 2)) := by
  unfold moreB
  rw [Bool.eq_iff_iff]
  simp only [Bool.and_eq_true, decide_eq_true_eq, List.all_eq_true, List.mem_range]
  constructor
  · rintro ⟨h1, h2⟩; exact ⟨⟨⟨by omega, h2 0 (by omega)⟩, h2 1 (by omega)⟩, h2 2 (by omega)⟩
  · rintro ⟨⟨⟨h1, h2⟩, h3⟩, h4⟩; exact ⟨by omega, fun i hi => by
      rcases (show i = 0 ∨ i = 1 ∨ i = 2 by omega) with rfl | rfl | rfl
      · exact h2
      · exact h3
      · exact h4⟩
theorem step_decode (s : ByteArray) (a : Nat) (h : a < s.size) : (stepB s a = 0 → (Utf8.decode s a).1 = 65533 ∧ (Utf8.decode s a).2 = 1) ∧ (stepB s a ≠ 0 → ¬ ((Utf8.decode s a).1 = 65533 ∧ (Utf8.decode s a).2 = 1) ∧ (Utf8.decode s a).2 = stepB s a) := by
  have hb : byt s a < 256 := by rw [byt_at s a h]; exact (s[a]'h).toNat_lt
  have e0 : (s.get! (a + 0)).toNat = byt s a := rfl
  have e1 : (s.get! (a + 1)).toNat = byt s (a + 1) := rfl
  have e2 : (s.get! (a + 2)).toNat = byt s (a + 2) := rfl
  have e3 : (s.get! (a + 3)).toNat = byt s (a + 3) := rfl
  unfold Utf8.decode stepB
  simp only [e0, e1, e2, e3, more1, more2, more3, Utf8.runeError, Utf8.valid]
  generalize byt s a = b0 at *
  generalize byt s (a + 1) = b1 at *
  generalize byt s (a + 2) = b2 at *
  generalize byt s (a + 3) = b3 at *
  simp only [Bool.and_eq_true, decide_eq_true_eq, beq_iff_eq, Bool.or_eq_true]
  split <;> (repeat' split) <;> simp_all <;> omega
end Go.Proofs.YtbjglcdoekbloaaGreatDoor

/- plain: the reference's Valid is the library's. -/
namespace Go.Proofs.YtbjglcdoekbloaaGreatDoor

theorem validB_go (s : ByteArray) : ∀ (n a : Nat), s.size - a ≤ n → a ≤ s.size → Lib.validGoD n (s.data.toList.drop a) = validB s a
  | 0, a, hn, ha => by rw [validB_end (by omega)]; rfl
  | n + 1, a, hn, ha => by
    have hl : s.data.toList.length = s.size := by rw [Array.length_toList]; rfl
    unfold Lib.validGoD
    by_cases h : a < s.size
    · have hne : s.data.toList.drop a ≠ [] := by
        intro e
        have := congrArg List.length e
        rw [List.length_drop, hl] at this
        simp at this; omega
      rw [if_neg hne, validB_step h]
      have hd : Lib.decodeL (s.data.toList.drop a) = Utf8.decode s a := by
        have := Lib.decodeL_drop s a
        exact this
      rw [hd]
      obtain ⟨k1, k2⟩ := step_decode s a h
      by_cases h0 : stepB s a = 0
      · rw [if_pos (k1 h0), if_pos h0]
      · obtain ⟨k3, k4⟩ := k2 h0
        rw [if_neg k3, if_neg h0, k4, List.drop_drop]
        exact validB_go s n (a + stepB s a) (by omega) (step_le s a h)
    · have e : s.data.toList.drop a = [] := List.drop_of_length_le (by omega)
      rw [if_pos e, validB_end h]
theorem validB_eq (s : ByteArray) : validB s 0 = Lib.validD s.data.toList := by
  have hl : s.data.toList.length = s.size := by rw [Array.length_toList]; rfl
  unfold Lib.validD
  rw [hl]
  have := validB_go s s.size 0 (by omega) (by omega)
  rw [List.drop_zero] at this
  exact this.symm
end Go.Proofs.YtbjglcdoekbloaaGreatDoor

/- the reference's Right, of labels. -/
namespace Go.Proofs.YtbjglcdoekbloaaGreatDoor
open Go.RowKit

theorem ref_valued2 (s : ByteArray) (w : World) (hs : s.size ≤ maxLen) : Calls Tryz.prog 107 #[.string s] w fun e w' => e = .returned (.bool (valuedF s)) ∧ Below w.heap.size w w' := by
  have h := ref_valued s w hs
  rw [validB_eq] at h
  exact h
theorem wrong0 {x : Lb} (h : wrongF x false = 0) : namedF x.n = true ∧ valuedF x.v = true ∧ x.v.toList.isEmpty = false := by
  unfold wrongF at h
  cases h1 : namedF x.n with
  | false => rw [if_pos h1] at h; cases h
  | true =>
    rw [if_neg (by simp [h1])] at h
    cases h2 : valuedF x.v with
    | false => rw [if_pos h2] at h; cases h
    | true =>
      rw [if_neg (by simp [h2])] at h
      refine ⟨rfl, rfl, ?_⟩
      rw [empty_iff]
      by_cases h3 : x.v.size = 0
      · rw [if_pos ⟨rfl, h3⟩] at h; cases h
      · simpa using h3
set_option maxRecDepth 100000 in
set_option maxHeartbeats 2000000 in
theorem ref05_right (A : Option Addr) (c : Nat) (l : List Lb) (w : World) (hA : RdL w A l) (hl : l.length ≤ maxLen) (hz : SzL l) :
    Calls Tryz.prog 82 #[.slice A l.length c] w fun e w' => e = .returned (.int .i64 (rightF l)) ∧ Below w.heap.size w w' := by
  by_cases h16 : 16 < l.length
  · have e : rightF l = 3 := by simp [rightF, h16]
    rw [e]
    clear e
    have h' : (16 : Int) < (l.length : Int) := by omega
    go_enter Tryz.func82, Tryz.ntmps82
    go_wp2
    go_ret
    exact ⟨rfl, Below.refl _ _⟩
  · have e : rightF l = rightFrom none l := by simp [rightF, h16]
    rw [e]
    clear e
    obtain ⟨n, hn⟩ : ∃ n, n = l.length := ⟨_, rfl⟩
    rw [← hn]
    have h' : ¬ (16 : Int) < (n : Int) := by omega
    have hnb : n ≤ 16 := by omega
    have Hn := Lib.hid hn
    clear hn h16 hl
    go_enter Tryz.func82, Tryz.ntmps82
    go_wp2
    go_loopw [10] (fun i wr => ∃ k : Nat, k ≤ n ∧ i = .int .i64 k ∧ RightTo l k ∧ Below w.heap.size w wr) (fun i _ => n - (intOf i).toNat)
    case atStart => exact ⟨0, Nat.zero_le _, rfl, RightTo.start l, Below.refl _ _⟩
    case round =>
      obtain ⟨k, hk, rfl, hR, hB⟩ := hrel
      by_cases hlt : k < n
      · have hkl : k < l.length := by rw [← Hn.out]; exact hlt
        have hAr := hA.below hB
        obtain ⟨b, off, rfl, c0, c1⟩ := hAr.at_ hkl
        have hsz := hz l[k] (List.getElem_mem hkl)
        have HB := Lib.hid hB
        have hnam := fun W => ref_named l[k].n W hsz.1
        have hval := fun W => ref_valued2 l[k].v W hsz.2
        have HNam := Lib.hid hnam
        have HVal := Lib.hid hval
        have a0 : (wr.alloc (.cells #[.string l[k].n, .string l[k].v] 124)).cell? ⟨wr.heap.size, 0, none⟩ = some (.string l[k].n) := by simp
        have a1 : (wr.alloc (.cells #[.string l[k].n, .string l[k].v] 124)).cell? ⟨wr.heap.size, 1, none⟩ = some (.string l[k].v) := by simp
        have HBa : Hid (Below wr.heap.size wr (wr.alloc (.cells #[.string l[k].n, .string l[k].v] 124))) := Lib.hid (balloc (Below.refl _ _) _)
        rcases hR.round hkl with ⟨g1, g2⟩ | ⟨g1, g2, g3⟩ | ⟨g1, g2, hR'⟩
        · have G2 := Lib.hid g2
          have hwf := g1
          unfold wrongF at hwf g2
          clear hnam hval hR hB hAr g1
          by_cases n1 : namedF l[k].n = false
          · rw [if_pos n1] at g2
            have G := Lib.hid g2
            rw [n1] at HNam
            clear g2 hwf n1 G2
            generalize l[k] = x at *
            go_wp2_with fail
            refine (HNam.out _).mono ?_
            rintro e w1 ⟨rfl, rfl⟩
            go_wp2
            go_ret
            exact ⟨ret_int G.out.symm, bthen HB.out HBa.out⟩
          · have n2 : namedF l[k].n = true := by simpa using n1
            rw [if_neg n1] at g2 hwf
            rw [n2] at HNam
            by_cases v1 : valuedF l[k].v = false
            · rw [if_pos v1] at g2
              have G := Lib.hid g2
              rw [v1] at HVal
              clear g2 hwf n1 n2 v1 G2
              generalize l[k] = x at *
              go_wp2_with fail
              refine (HNam.out _).mono ?_
              rintro e w1 ⟨rfl, rfl⟩
              go_wp2_with fail
              refine (HVal.out _).mono ?_
              rintro e w2 ⟨rfl, hb⟩
              have HB2 := Lib.hid (bthen HBa.out hb)
              clear hb
              go_wp2
              go_ret
              exact ⟨ret_int G.out.symm, bthen HB.out HB2.out⟩
            · have v2 : valuedF l[k].v = true := by simpa using v1
              rw [if_neg v1] at g2 hwf
              rw [v2] at HVal
              by_cases z1 : l[k].v.size = 0
              · rw [if_pos ⟨rfl, z1⟩] at g2
                have G := Lib.hid g2
                have he : l[k].v.toList.isEmpty = true := by rw [empty_iff]; simpa using z1
                clear g2 hwf n1 n2 v1 v2 G2
                generalize l[k] = x at *
                go_wp2_with fail
                refine (HNam.out _).mono ?_
                rintro e w1 ⟨rfl, rfl⟩
                go_wp2_with fail
                refine (HVal.out _).mono ?_
                rintro e w2 ⟨rfl, hb⟩
                have b1 := later hb a1
                have HB2 := Lib.hid (bthen HBa.out hb)
                clear hb
                go_wp2
                go_ret
                exact ⟨ret_int G.out.symm, bthen HB.out HB2.out⟩
              · rw [if_neg (fun h => z1 h.2)] at hwf
                exact (hwf rfl).elim
        · have G3 := Lib.hid g3
          obtain ⟨n1, v1, he⟩ := wrong0 g1
          rw [n1] at HNam
          rw [v1] at HVal
          obtain ⟨j, rfl⟩ : ∃ j, k = j + 1 := by
            cases k with
            | zero => simp [prevN, behindF] at g2
            | succ j => exact ⟨j, rfl⟩
          have hjl : j < l.length := by omega
          obtain ⟨b', off', eA, p0, p1⟩ := hAr.at_ hjl
          cases eA
          have g2' : leB l[j + 1].n l[j].n = true := by simpa [prevN, behindF, List.getElem?_eq_getElem hjl] using g2
          unfold leB at g2'
          have q0 := later HBa.out p0
          clear g3 g1 g2 n1 v1 hnam hval hR hB hAr p0 p1
          generalize l[j + 1] = x at *
          generalize l[j] = y at *
          have hcur : ((j + 1 : Nat) : Int) = (j : Int) + 1 := by omega
          go_wp2_with fail
          refine (HNam.out _).mono ?_
          rintro e w1 ⟨rfl, rfl⟩
          go_wp2_with fail
          refine (HVal.out _).mono ?_
          rintro e w2 ⟨rfl, hb⟩
          have b0 := later hb a0
          have b1 := later hb a1
          have q1 := later hb q0
          have HB2 := Lib.hid (bthen HBa.out hb)
          clear hb a0 a1 q0 c0 c1
          go_wp2
          go_quiet (fail)
          go_wp2
          go_ret
          exact ⟨ret_int G3.out.symm, bdr (bthen HB.out HB2.out) _⟩
        · have HR' := Lib.hid hR'
          obtain ⟨n1, v1, he⟩ := wrong0 g1
          rw [n1] at HNam
          rw [v1] at HVal
          by_cases hk0 : k = 0
          · subst hk0
            clear g1 g2 n1 v1 hnam hval hR hB hAr hR'
            generalize l[0] = x at *
            simp only [Nat.zero_mul, Nat.add_zero] at c0 c1
            go_wp2_with fail
            refine (HNam.out _).mono ?_
            rintro e w1 ⟨rfl, rfl⟩
            go_wp2_with fail
            refine (HVal.out _).mono ?_
            rintro e w2 ⟨rfl, hb⟩
            have b0 := later hb a0
            have b1 := later hb a1
            have HB2 := Lib.hid (bthen HBa.out hb)
            clear hb a0 a1 c0 c1
            go_wp2
            go_quiet (fail)
            go_wp2
            go_roundw
            case rel => exact ⟨1, by omega, by go_num, HR'.out, bdr (bthen HB.out HB2.out) _⟩
            case measure => simp [intOf]; omega
          · obtain ⟨j, rfl⟩ : ∃ j, k = j + 1 := ⟨k - 1, by omega⟩
            have hjl : j < l.length := by omega
            obtain ⟨b', off', eA, p0, p1⟩ := hAr.at_ hjl
            cases eA
            have g2' : leB l[j + 1].n l[j].n = false := by simpa [prevN, behindF, List.getElem?_eq_getElem hjl] using g2
            unfold leB at g2'
            have q0 := later HBa.out p0
            clear g1 g2 n1 v1 hnam hval hR hB hAr p0 p1 hR'
            generalize l[j + 1] = x at *
            generalize l[j] = y at *
            have hcur : ((j + 1 : Nat) : Int) = (j : Int) + 1 := by omega
            go_wp2_with fail
            refine (HNam.out _).mono ?_
            rintro e w1 ⟨rfl, rfl⟩
            go_wp2_with fail
            refine (HVal.out _).mono ?_
            rintro e w2 ⟨rfl, hb⟩
            have b0 := later hb a0
            have b1 := later hb a1
            have q1 := later hb q0
            have HB2 := Lib.hid (bthen HBa.out hb)
            clear hb a0 a1 q0 c0 c1
            go_wp2
            go_quiet (fail)
            go_wp2
            go_roundw
            case rel => exact ⟨j + 1 + 1, by omega, by go_num, HR'.out, bdr (bthen HB.out HB2.out) _⟩
            case measure => simp [intOf]; omega
      · have hR0 := Lib.hid (hR.done (by rw [← Hn.out]; exact hlt))
        have HB := Lib.hid hB
        clear hR hB
        go_wp2
        go_ret
        exact ⟨ret_int hR0.out.symm, HB.out⟩
end Go.Proofs.YtbjglcdoekbloaaGreatDoor

/- the reference's Check of records, and Right of points: the texts of record.Check and points.Right, turned. -/
namespace Go.Proofs.YtbjglcdoekbloaaGreatDoor
open Go.RowKit

set_option maxRecDepth 100000 in
set_option maxHeartbeats 2000000 in
theorem ref13_check {D : Nat → Prop} (r : Rec) (lv pv : Value) (w : World) (hl : SlL w D lv r.lab) (hp : SlE w D pv r.pts) (hz : SzL r.lab) :
    Calls Tryz.prog 83 #[.agg #[.int .i64 r.kind, .int .u32 r.ref, lv, pv]] w fun e w' => e = .returned (.int .i64 (checkF r)) ∧ Below w.heap.size w w' := by
  obtain ⟨kind, ref, lab, pts⟩ := r
  simp only at hl hp hz ⊢
  obtain ⟨A, c, rfl, l1, l2, l3, l4, l5⟩ := hl
  obtain ⟨B, d, rfl, p1, p2, p3, p4, p5⟩ := hp
  have hlm : lab.length ≤ 9223372036854775807 := Nat.le_trans l1 l2
  have hpm : pts.length ≤ 9223372036854775807 := Nat.le_trans p1 p2
  by_cases k1 : kind = 1
  · subst k1
    have hk1 : ((1 : Int) == 1) = true := rfl
    by_cases r0 : ref = 0
    · subst r0
      have e : checkF ⟨1, 0, lab, pts⟩ = 1 := by simp [checkF]
      rw [e]
      go_enter Tryz.func83, Tryz.ntmps83
      go_wp2
      go_ret
      exact ⟨rfl, balloc (Below.refl _ _) _⟩
    · have hr0 : (ref == 0) = false := by simpa using r0
      by_cases hpz : pts = []
      · have e : checkF ⟨1, ref, lab, pts⟩ = rightF lab := by simp [checkF, r0, hpz]
        have hn : pts.length = 0 := by rw [hpz]; rfl
        rw [e, hn]
        have hcall := ref05_right A c lab (w.alloc (.cells #[.int .i64 1, .int .u32 ref, .slice A lab.length c, .slice B 0 d] 45)) (Rd.below l5 (balloc (Below.refl _ _) _)) (Nat.le_trans l1 l2) hz
        clear e hn hpz hz l5 p5 l4 p4 r0
        go_enter Tryz.func83, Tryz.ntmps83
        go_wp2_with (go_at_call 82; refine hcall.mono ?_; rintro e w1 ⟨rfl, hb⟩)
        go_ret
        exact ⟨rfl, bthen (balloc (Below.refl _ _) _) hb⟩
      · have e : checkF ⟨1, ref, lab, pts⟩ = 1 := by simp [checkF, hpz]
        have hn : (0 : Int) < (pts.length : Int) := by have := List.length_pos_iff.2 hpz; omega
        rw [e]
        clear e hpz hz l5 p5 l4 p4 r0
        go_enter Tryz.func83, Tryz.ntmps83
        go_wp2
        go_ret
        exact ⟨rfl, balloc (Below.refl _ _) _⟩
  · have hk1 : (kind == 1) = false := by simpa using k1
    by_cases k2 : kind = 2
    · subst k2
      have hk2 : ((2 : Int) == 2) = true := rfl
      by_cases r0 : ref = 0
      · subst r0
        have hr0 : ((0 : Int) != 0) = false := rfl
        by_cases hlz : lab = []
        · have hln : lab.length = 0 := by rw [hlz]; rfl
          rw [hln]
          by_cases hpz : pts = []
          · have e : checkF ⟨2, 0, lab, pts⟩ = 1 := by simp [checkF, hpz]
            have hn : pts.length = 0 := by rw [hpz]; rfl
            rw [e, hn]
            clear e hpz hlz hz l5 p5 l4 p4 hn hln
            go_enter Tryz.func83, Tryz.ntmps83
            go_wp2
            go_ret
            exact ⟨rfl, balloc (Below.refl _ _) _⟩
          · have hn : ((pts.length : Int) == 0) = false := by simpa using hpz
            by_cases h256 : 256 < pts.length
            · have e : checkF ⟨2, 0, lab, pts⟩ = 3 := by simp [checkF, hpz, hlz, h256]
              have h256' : (256 : Int) < (pts.length : Int) := by omega
              rw [e]
              clear e hpz hlz hz l5 p5 l4 p4 hln
              go_enter Tryz.func83, Tryz.ntmps83
              go_wp2
              go_ret
              exact ⟨rfl, balloc (Below.refl _ _) _⟩
            · have e : checkF ⟨2, 0, lab, pts⟩ = anyBad pts := by simp [checkF, hlz, hpz, h256]
              have h256' : ¬ (256 : Int) < (pts.length : Int) := by omega
              rw [e]
              obtain ⟨n, hn'⟩ : ∃ n, n = pts.length := ⟨_, rfl⟩
              rw [← hn'] at h256' hn hpm ⊢
              have Hn := Lib.hid hn'
              have hp5 := p5
              have HE : ∀ b, pts.any badEn = b → anyBad pts = if b = true then 1 else 0 := fun b hb => by unfold anyBad; rw [hb]
              clear e hpz hlz hz l5 l4 p4 hln h256 hn' p5 p1
              go_enter Tryz.func83, Tryz.ntmps83
              go_wp2
              go_loopw [45] (fun i wr => ∃ k : Nat, k ≤ n ∧ i = .int .i64 k ∧ EnTo pts k ∧ Below w.heap.size w wr) (fun i _ => n - (intOf i).toNat)
              case atStart => exact ⟨0, Nat.zero_le _, rfl, EnTo.start _, balloc (Below.refl _ _) _⟩
              case round =>
                obtain ⟨k, hk, rfl, hE, hB⟩ := hrel
                by_cases hlt : k < n
                · have hkl : k < pts.length := by rw [← Hn.out]; exact hlt
                  obtain ⟨b, off, rfl, c0, c1, c2, c3⟩ := rdE_at (Rd.below hp5 hB) hkl
                  rcases hE.round hkl with ⟨g1, g2⟩ | ⟨g1, hE'⟩
                  · have H1 := Lib.hid (HE _ g2)
                    have g3 : (pts[k].ref == 0) = true ∨ (pts[k].ref == 0) = false ∧ (pts[k].p.S == 0) = true := by
                      simp only [badEn, Bool.or_eq_true, decide_eq_true_eq] at g1
                      by_cases h : pts[k].ref = 0
                      · left; simpa using h
                      · right; rcases g1 with g1 | g1
                        · exact absurd g1 h
                        · exact ⟨by simpa using h, by simpa using g1⟩
                    clear g1 g2 HE
                    generalize pts[k] = x at *
                    rcases g3 with g3 | ⟨g3, g4⟩
                    all_goals
                      go_wp2
                      go_ret
                      exact ⟨ret_int (by rw [H1.out]; rfl), balloc hB _⟩
                  · have g3 : (pts[k].ref == 0) = false := by simp only [badEn, Bool.or_eq_false_iff, decide_eq_false_iff_not] at g1; simpa using g1.1
                    have g4 : (pts[k].p.S == 0) = false := by simp only [badEn, Bool.or_eq_false_iff, decide_eq_false_iff_not] at g1; simpa using g1.2
                    clear g1 HE
                    generalize pts[k] = x at *
                    go_wp2
                    go_roundw
                    case rel => exact ⟨k + 1, by omega, by go_num, hE', balloc hB _⟩
                    case measure => simp [intOf]; omega
                · have H1 := Lib.hid (HE _ (hE.done (by rw [← Hn.out]; exact hlt)))
                  clear HE
                  go_wp2
                  go_ret
                  exact ⟨ret_int (by rw [H1.out]; rfl), hB⟩
        · have e : checkF ⟨2, 0, lab, pts⟩ = 1 := by simp [checkF, hlz]
          have hn : 0 < lab.length := List.length_pos_iff.2 hlz
          rw [e]
          clear e hlz hz l5 p5 l4 p4
          generalize lab.length = m at *
          have hd : decide (0 < m) = true := by simpa using hn
          go_enter Tryz.func83, Tryz.ntmps83
          go_wp2
          go_ret
          exact ⟨rfl, balloc (Below.refl _ _) _⟩
      · have e : checkF ⟨2, ref, lab, pts⟩ = 1 := by simp [checkF, r0]
        have hr0 : (ref != 0) = true := by simpa using r0
        rw [e]
        clear e hz l5 p5 l4 p4 r0
        go_enter Tryz.func83, Tryz.ntmps83
        go_wp2
        go_ret
        exact ⟨rfl, balloc (Below.refl _ _) _⟩
    · have hk2 : (kind == 2) = false := by simpa using k2
      have e : checkF ⟨kind, ref, lab, pts⟩ = 130 := by simp [checkF, k1, k2]
      rw [e]
      clear e hz l5 p5 l4 p4 k1 k2
      go_enter Tryz.func83, Tryz.ntmps83
      go_wp2
      go_ret
      exact ⟨rfl, balloc (Below.refl _ _) _⟩

set_option maxHeartbeats 2000000 in
theorem ref09_right (A : Option Addr) (c : Nat) (l : List Pt) (w : World) (hA : RdP w A l) (hl : l.length ≤ maxLen) :
    Calls Tryz.prog 86 #[.slice A l.length c] w fun e w' => e = .returned (.bool (rightP l)) ∧ Below w.heap.size w w' := by
  have hl : l.length ≤ 9223372036854775807 := hl
  obtain ⟨n, hn⟩ : ∃ n, n = l.length := ⟨_, rfl⟩
  rw [← hn] at hl ⊢
  have Hn := Lib.hid hn
  clear hn
  go_enter Tryz.func86, Tryz.ntmps86
  go_wp2
  go_loopw [7] (fun i wr => ∃ k : Nat, k ≤ n ∧ i = .int .i64 k ∧ RightPTo l k ∧ Below w.heap.size w wr) (fun i _ => n - (intOf i).toNat)
  case atStart => exact ⟨0, Nat.zero_le _, rfl, RightPTo.start l, Below.refl _ _⟩
  case round =>
    obtain ⟨k, hk, rfl, hR, hB⟩ := hrel
    by_cases hlt : k < n
    · have hkl : k < l.length := by rw [← Hn.out]; exact hlt
      have hAr := hA.below hB
      obtain ⟨b, off, rfl, c0, c1, c2⟩ := hAr.at_ hkl
      have hsr := hB.size
      have hbl : b < wr.heap.size := World.block_lt_of_cell? wr ⟨b, off + k * 3, none⟩ c0
      rcases hR.round hkl with ⟨g1, g2⟩ | ⟨g1, g2, g3⟩ | ⟨g1, g2, hR'⟩
      · have G2 := Lib.hid g2
        have s1 : (l[k].S == 0) = true := by simpa using g1
        clear g1 g2
        generalize l[k] = x at *
        go_wp2
        go_quiet (fail)
        go_wp2
        go_ret
        exact ⟨ret_bool G2.out.symm, bdr (balloc hB _) _⟩
      · have G3 := Lib.hid g3
        obtain ⟨j, rfl⟩ : ∃ j, k = j + 1 := by
          cases k with
          | zero => simp [prevT, notAfter] at g2
          | succ j => exact ⟨j, rfl⟩
        have hjl : j < l.length := by omega
        obtain ⟨b', off', eA, p0, _⟩ := hAr.at_ hjl
        cases eA
        have g2' : l[j + 1].T ≤ l[j].T := by simpa [prevT, notAfter, List.getElem?_eq_getElem hjl] using g2
        have s1 : (l[j + 1].S == 0) = false := by simpa using g1
        clear g3 g1 g2
        generalize l[j + 1] = x at *
        generalize l[j] = y at *
        have hcur : ((j + 1 : Nat) : Int) = (j : Int) + 1 := by omega
        go_wp2
        go_quiet (fail)
        go_wp2
        go_ret
        exact ⟨ret_bool G3.out.symm, bdr (balloc hB _) _⟩
      · have s1 : (l[k].S == 0) = false := by simpa using g1
        by_cases hk0 : k = 0
        · subst hk0
          clear g1 g2
          generalize l[0] = x at *
          simp only [Nat.zero_mul, Nat.add_zero] at c0 c1 c2
          go_wp2
          go_quiet (fail)
          go_wp2
          go_roundw
          case rel => exact ⟨1, by omega, by go_num, hR', bdr (balloc hB _) _⟩
          case measure => simp [intOf]; omega
        · obtain ⟨j, rfl⟩ : ∃ j, k = j + 1 := ⟨k - 1, by omega⟩
          have hjl : j < l.length := by omega
          obtain ⟨b', off', eA, p0, _⟩ := hAr.at_ hjl
          cases eA
          have g2' : ¬ l[j + 1].T ≤ l[j].T := by simpa [prevT, notAfter, List.getElem?_eq_getElem hjl] using g2
          clear g1 g2
          generalize l[j + 1] = x at *
          generalize l[j] = y at *
          have hcur : ((j + 1 : Nat) : Int) = (j : Int) + 1 := by omega
          go_wp2
          go_quiet (fail)
          go_wp2
          go_roundw
          case rel => exact ⟨j + 1 + 1, by omega, by go_num, hR', bdr (balloc hB _) _⟩
          case measure => simp [intOf]; omega
    · have e := hR.done (by rw [← Hn.out]; exact hlt)
      rw [← Hn.out] at e
      have E := Lib.hid e
      clear e
      by_cases h6 : n ≤ 65536
      · have h6' : (n : Int) ≤ 65536 := by omega
        go_wp2
        go_ret
        exact ⟨ret_bool (by rw [E.out]; simp [h6]), hB⟩
      · have h6' : ¬ (n : Int) ≤ 65536 := by omega
        go_wp2
        go_ret
        exact ⟨ret_bool (by rw [E.out]; simp [h6]), hB⟩
end Go.Proofs.YtbjglcdoekbloaaGreatDoor
