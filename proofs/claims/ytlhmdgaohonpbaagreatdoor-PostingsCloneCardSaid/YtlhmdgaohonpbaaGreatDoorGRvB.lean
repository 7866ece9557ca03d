import Derived.Test.YtlhmdgaohonpbaaGreatDoorGRvA
import Derived.Lib.FieldsU
set_option linter.unusedSimpArgs false
set_option linter.unusedVariables false
set_option linter.unusedSectionVars false
namespace Go.Proofs.YtlhmdgaohonpbaaGreatDoor
theorem more1 (s : ByteArray) (a : Nat) : moreV s (a + 1) 1 = (decide (a + 1 < s.size) && decide (byt s (a + 1) / 64 = 2)) := by
 unfold moreV
 rw [Bool.eq_iff_iff]
 simp only [Bool.and_eq_true, decide_eq_true_eq, List.all_eq_true, List.mem_range]
 constructor
 ·rintro ⟨h1, h2⟩; exact ⟨by omega, h2 0 (by omega)⟩
 ·rintro ⟨h1, h2⟩; exact ⟨by omega, fun i hi => by
   obtain rfl : i = 0 := by omega
   exact h2⟩
theorem more2 (s : ByteArray) (a : Nat) : moreV s (a + 1) 2 = (decide (a + 2 < s.size) && decide (byt s (a + 1) / 64 = 2) && decide (byt s (a + 2) / 64 = 2)) := by
 unfold moreV
 rw [Bool.eq_iff_iff]
 simp only [Bool.and_eq_true, decide_eq_true_eq, List.all_eq_true, List.mem_range]
 constructor
 ·rintro ⟨h1, h2⟩; exact ⟨⟨by omega, h2 0 (by omega)⟩, h2 1 (by omega)⟩
 ·rintro ⟨⟨h1, h2⟩, h3⟩; exact ⟨by omega, fun i hi => by
   rcases (show i = 0 ∨ i = 1 by omega) with rfl | rfl
   ·exact h2
   ·exact h3⟩
theorem more3 (s : ByteArray) (a : Nat) : moreV s (a + 1) 3 = (decide (a + 3 < s.size) && decide (byt s (a + 1) / 64 = 2) && decide (byt s (a + 2) / 64 = 2) && decide (byt s (a + 3) / 64 = 2)) := by
 unfold moreV
 rw [Bool.eq_iff_iff]
 simp only [Bool.and_eq_true, decide_eq_true_eq, List.all_eq_true, List.mem_range]
 constructor
 ·rintro ⟨h1, h2⟩; exact ⟨⟨⟨by omega, h2 0 (by omega)⟩, h2 1 (by omega)⟩, h2 2 (by omega)⟩
 ·rintro ⟨⟨⟨h1, h2⟩, h3⟩, h4⟩; exact ⟨by omega, fun i hi => by
   rcases (show i = 0 ∨ i = 1 ∨ i = 2 by omega) with rfl | rfl | rfl
   ·exact h2
   ·exact h3
   ·exact h4⟩
theorem step_decode (s : ByteArray) (a : Nat) (h : a < s.size) : (stepB s a = 0 → (Utf8.decode s a).1 = 65533 ∧ (Utf8.decode s a).2 = 1) ∧ (stepB s a ≠ 0 → ¬ ((Utf8.decode s a).1 = 65533 ∧ (Utf8.decode s a).2 = 1) ∧ (Utf8.decode s a).2 = stepB s a) := by
 have hb : byt s a < 256 := by rw [byt_at s a h]; exact (s[a]'h).toNat_lt
 have e0 : (s.get! (a + 0)).toNat = byt s a := rfl
 have e1 : (s.get! (a + 1)).toNat = byt s (a + 1) := rfl
 have e2 : (s.get! (a + 2)).toNat = byt s (a + 2) := rfl
 have e3 : (s.get! (a + 3)).toNat = byt s (a + 3) := rfl
 unfold Utf8.decode stepB
 simp only [e0, e1, e2, e3, more1, more2, more3, Utf8.runeError, Utf8.valid]
 generalize byt s a = b0 at *
 generalize byt s (a + 1) = b1 at *
 generalize byt s (a + 2) = b2 at *
 generalize byt s (a + 3) = b3 at *
 simp only [Bool.and_eq_true, decide_eq_true_eq, beq_iff_eq, Bool.or_eq_true]
 split <;> (repeat' split) <;> simp_all <;> omega
end Go.Proofs.YtlhmdgaohonpbaaGreatDoor

namespace Go.Proofs.YtlhmdgaohonpbaaGreatDoor
theorem validB_go (s : ByteArray) : ∀ (n a : Nat), s.size - a ≤ n → a ≤ s.size → Lib.validGoD n (s.data.toList.drop a) = validB s a
 | 0, a, hn, ha => by rw [validB_end (by omega)]; rfl
 | n + 1, a, hn, ha => by
  have hl : s.data.toList.length = s.size := by rw [Array.length_toList]; rfl
  unfold Lib.validGoD
  by_cases h : a < s.size
  ·have hne : s.data.toList.drop a ≠ [] := by
    intro e
    have := congrArg List.length e
    rw [List.length_drop, hl] at this
    simp at this; omega
   rw [if_neg hne, validB_step h]
   have hd : Lib.decodeL (s.data.toList.drop a) = Utf8.decode s a := by
    have := Lib.decodeL_drop s a
    exact this
   rw [hd]
   obtain ⟨k1, k2⟩ := step_decode s a h
   by_cases h0 : stepB s a = 0
   ·rw [if_pos (k1 h0), if_pos h0]
   ·obtain ⟨k3, k4⟩ := k2 h0
    rw [if_neg k3, if_neg h0, k4, List.drop_drop]
    exact validB_go s n (a + stepB s a) (by omega) (step_le s a h)
  ·have e : s.data.toList.drop a = [] := List.drop_of_length_le (by omega)
   rw [if_pos e, validB_end h]
theorem validB_eq (s : ByteArray) : validB s 0 = Lib.validD s.data.toList := by
 have hl : s.data.toList.length = s.size := by rw [Array.length_toList]; rfl
 unfold Lib.validD
 rw [hl]
 have := validB_go s s.size 0 (by omega) (by omega)
 rw [List.drop_zero] at this
 exact this.symm
end Go.Proofs.YtlhmdgaohonpbaaGreatDoor

namespace Go.Proofs.YtlhmdgaohonpbaaGreatDoor
open Go.RowKit
theorem ref_valued2 (s : ByteArray) (w : World) (hs : s.size ≤ maxLen) : Calls Tryz.prog 46 #[.string s] w fun e w' => e = .returned (.bool (valuedF s)) ∧ Below w.heap.size w w' := by
 have h := ref_valued s w hs
 rw [validB_eq] at h
 exact h
theorem wrong0 {x : Lb} (h : wrongF x false = 0) : namedF x.n = true ∧ valuedF x.v = true ∧ x.v.toList.isEmpty = false := by
 unfold wrongF at h
 cases h1 : namedF x.n with
 | false => rw [if_pos h1] at h; cases h
 | true =>
  rw [if_neg (by simp [h1])] at h
  cases h2 : valuedF x.v with
  | false => rw [if_pos h2] at h; cases h
  | true =>
   rw [if_neg (by simp [h2])] at h
   refine ⟨rfl, rfl, ?_⟩
   rw [empty_iff]
   by_cases h3 : x.v.size = 0
   ·rw [if_pos ⟨rfl, h3⟩] at h; cases h
   ·simpa using h3
set_option maxRecDepth 100000 in
set_option maxHeartbeats 2000000 in
theorem ref05_right (A : Option Addr) (c : Nat) (l : List Lb) (w : World) (hA : RdL w A l) (hl : l.length ≤ maxLen) (hz : SzL l) :
  Calls Tryz.prog 16 #[.slice A l.length c] w fun e w' => e = .returned (.int .i64 (rightF l)) ∧ Below w.heap.size w w' := by
 by_cases h16 : 16 < l.length
 ·have e : rightF l = 3 := by simp [rightF, h16]
  rw [e]
  clear e
  have h' : (16 : Int) < (l.length : Int) := by omega
  go_enter Tryz.func16, Tryz.ntmps16
  go_wp2
  go_ret
  exact ⟨rfl, Below.refl _ _⟩
 ·have e : rightF l = rightFrom none l := by simp [rightF, h16]
  rw [e]
  clear e
  obtain ⟨n, hn⟩ : ∃ n, n = l.length := ⟨_, rfl⟩
  rw [← hn]
  have h' : ¬ (16 : Int) < (n : Int) := by omega
  have hnb : n ≤ 16 := by omega
  have Hn := Lib.hid hn
  clear hn h16 hl
  go_enter Tryz.func16, Tryz.ntmps16
  go_wp2
  go_loopw [10] (fun i wr => ∃ k : Nat, k ≤ n ∧ i = .int .i64 k ∧ RightTo l k ∧ Below w.heap.size w wr) (fun i _ => n - (intOf i).toNat)
  case atStart => exact ⟨0, Nat.zero_le _, rfl, RightTo.start l, Below.refl _ _⟩
  case round =>
   obtain ⟨k, hk, rfl, hR, hB⟩ := hrel
   by_cases hlt : k < n
   ·have hkl : k < l.length := by rw [← Hn.out]; exact hlt
    have hAr := hA.below hB
    obtain ⟨b, off, rfl, c0, c1⟩ := hAr.at_ hkl
    have hsz := hz l[k] (List.getElem_mem hkl)
    have HB := Lib.hid hB
    have hnam := fun W => ref_named l[k].n W hsz.1
    have hval := fun W => ref_valued2 l[k].v W hsz.2
    have HNam := Lib.hid hnam
    have HVal := Lib.hid hval
    have a0 : (wr.alloc (.cells #[.string l[k].n, .string l[k].v] 80)).cell? ⟨wr.heap.size, 0, none⟩ = some (.string l[k].n) := by simp
    have a1 : (wr.alloc (.cells #[.string l[k].n, .string l[k].v] 80)).cell? ⟨wr.heap.size, 1, none⟩ = some (.string l[k].v) := by simp
    have HBa : Hid (Below wr.heap.size wr (wr.alloc (.cells #[.string l[k].n, .string l[k].v] 80))) := Lib.hid (balloc (Below.refl _ _) _)
    rcases hR.round hkl with ⟨g1, g2⟩ | ⟨g1, g2, g3⟩ | ⟨g1, g2, hR'⟩
    ·have G2 := Lib.hid g2
     have hwf := g1
     unfold wrongF at hwf g2
     clear hnam hval hR hB hAr g1
     by_cases n1 : namedF l[k].n = false
     ·rw [if_pos n1] at g2
      have G := Lib.hid g2
      rw [n1] at HNam
      clear g2 hwf n1 G2
      generalize l[k] = x at *
      go_wp2_with fail
      refine (HNam.out _).mono ?_
      rintro e w1 ⟨rfl, rfl⟩
      go_wp2
      go_ret
      exact ⟨ret_int G.out.symm, bthen HB.out HBa.out⟩
     ·have n2 : namedF l[k].n = true := by simpa using n1
      rw [if_neg n1] at g2 hwf
      rw [n2] at HNam
      by_cases v1 : valuedF l[k].v = false
      ·rw [if_pos v1] at g2
       have G := Lib.hid g2
       rw [v1] at HVal
       clear g2 hwf n1 n2 v1 G2
       generalize l[k] = x at *
       go_wp2_with fail
       refine (HNam.out _).mono ?_
       rintro e w1 ⟨rfl, rfl⟩
       go_wp2_with fail
       refine (HVal.out _).mono ?_
       rintro e w2 ⟨rfl, hb⟩
       have HB2 := Lib.hid (bthen HBa.out hb)
       clear hb
       go_wp2
       go_ret
       exact ⟨ret_int G.out.symm, bthen HB.out HB2.out⟩
      ·have v2 : valuedF l[k].v = true := by simpa using v1
       rw [if_neg v1] at g2 hwf
       rw [v2] at HVal
       by_cases z1 : l[k].v.size = 0
       ·rw [if_pos ⟨rfl, z1⟩] at g2
        have G := Lib.hid g2
        have he : l[k].v.toList.isEmpty = true := by rw [empty_iff]; simpa using z1
        clear g2 hwf n1 n2 v1 v2 G2
        generalize l[k] = x at *
        go_wp2_with fail
        refine (HNam.out _).mono ?_
        rintro e w1 ⟨rfl, rfl⟩
        go_wp2_with fail
        refine (HVal.out _).mono ?_
        rintro e w2 ⟨rfl, hb⟩
        have b1 := later hb a1
        have HB2 := Lib.hid (bthen HBa.out hb)
        clear hb
        go_wp2
        go_ret
        exact ⟨ret_int G.out.symm, bthen HB.out HB2.out⟩
       ·rw [if_neg (fun h => z1 h.2)] at hwf
        exact (hwf rfl).elim
    ·have G3 := Lib.hid g3
     obtain ⟨n1, v1, he⟩ := wrong0 g1
     rw [n1] at HNam
     rw [v1] at HVal
     obtain ⟨j, rfl⟩ : ∃ j, k = j + 1 := by
      cases k with
      | zero => simp [prevN, behindF] at g2
      | succ j => exact ⟨j, rfl⟩
     have hjl : j < l.length := by omega
     obtain ⟨b', off', eA, p0, p1⟩ := hAr.at_ hjl
     cases eA
     have g2' : leB l[j + 1].n l[j].n = true := by simpa [prevN, behindF, List.getElem?_eq_getElem hjl] using g2
     unfold leB at g2'
     have q0 := later HBa.out p0
     clear g3 g1 g2 n1 v1 hnam hval hR hB hAr p0 p1
     generalize l[j + 1] = x at *
     generalize l[j] = y at *
     have hcur : ((j + 1 : Nat) : Int) = (j : Int) + 1 := by omega
     go_wp2_with fail
     refine (HNam.out _).mono ?_
     rintro e w1 ⟨rfl, rfl⟩
     go_wp2_with fail
     refine (HVal.out _).mono ?_
     rintro e w2 ⟨rfl, hb⟩
     have b0 := later hb a0
     have b1 := later hb a1
     have q1 := later hb q0
     have HB2 := Lib.hid (bthen HBa.out hb)
     clear hb a0 a1 q0 c0 c1
     go_wp2
     go_quiet (fail)
     go_wp2
     go_ret
     exact ⟨ret_int G3.out.symm, bdr (bthen HB.out HB2.out) _⟩
    ·have HR' := Lib.hid hR'
     obtain ⟨n1, v1, he⟩ := wrong0 g1
     rw [n1] at HNam
     rw [v1] at HVal
     by_cases hk0 : k = 0
     ·subst hk0
      clear g1 g2 n1 v1 hnam hval hR hB hAr hR'
      generalize l[0] = x at *
      simp only [Nat.zero_mul, Nat.add_zero] at c0 c1
      go_wp2_with fail
      refine (HNam.out _).mono ?_
      rintro e w1 ⟨rfl, rfl⟩
      go_wp2_with fail
      refine (HVal.out _).mono ?_
      rintro e w2 ⟨rfl, hb⟩
      have b0 := later hb a0
      have b1 := later hb a1
      have HB2 := Lib.hid (bthen HBa.out hb)
      clear hb a0 a1 c0 c1
      go_wp2
      go_quiet (fail)
      go_wp2
      go_roundw
      case rel => exact ⟨1, by omega, by go_num, HR'.out, bdr (bthen HB.out HB2.out) _⟩
      case measure => simp [intOf]; omega
     ·obtain ⟨j, rfl⟩ : ∃ j, k = j + 1 := ⟨k - 1, by omega⟩
      have hjl : j < l.length := by omega
      obtain ⟨b', off', eA, p0, p1⟩ := hAr.at_ hjl
      cases eA
      have g2' : leB l[j + 1].n l[j].n = false := by simpa [prevN, behindF, List.getElem?_eq_getElem hjl] using g2
      unfold leB at g2'
      have q0 := later HBa.out p0
      clear g1 g2 n1 v1 hnam hval hR hB hAr p0 p1 hR'
      generalize l[j + 1] = x at *
      generalize l[j] = y at *
      have hcur : ((j + 1 : Nat) : Int) = (j : Int) + 1 := by omega
      go_wp2_with fail
      refine (HNam.out _).mono ?_
      rintro e w1 ⟨rfl, rfl⟩
      go_wp2_with fail
      refine (HVal.out _).mono ?_
      rintro e w2 ⟨rfl, hb⟩
      have b0 := later hb a0
      have b1 := later hb a1
      have q1 := later hb q0
      have HB2 := Lib.hid (bthen HBa.out hb)
      clear hb a0 a1 q0 c0 c1
      go_wp2
      go_quiet (fail)
      go_wp2
      go_roundw
      case rel => exact ⟨j + 1 + 1, by omega, by go_num, HR'.out, bdr (bthen HB.out HB2.out) _⟩
      case measure => simp [intOf]; omega
   ·have hR0 := Lib.hid (hR.done (by rw [← Hn.out]; exact hlt))
    have HB := Lib.hid hB
    clear hR hB
    go_wp2
    go_ret
    exact ⟨ret_int hR0.out.symm, HB.out⟩
end Go.Proofs.YtlhmdgaohonpbaaGreatDoor
