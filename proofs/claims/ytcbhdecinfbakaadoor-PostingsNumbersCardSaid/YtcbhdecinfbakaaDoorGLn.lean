import Derived.Test.YtcbhdecinfbakaaDoorGLj
import Derived.Test.YtcbhdecinfbakaaDoorGNuA
set_option linter.unusedSimpArgs false
set_option linter.unusedVariables false
set_option linter.unusedSectionVars false
/- the law PostingsNumbers. -/
namespace Go.Proofs.YtcbhdecinfbakaaDoor
open Go.RowKit Go.Proofs.YtcbhdecinfbakaaDoor.MapRaw Go.ChangeMaps

set_option maxRecDepth 100000 in
set_option maxHeartbeats 4000000 in
theorem law_nums {D D1 : Nat → Prop} (va vb : Value) (a b : List Int) (w : World) (ha : SlU w D va a) (hb : SlU w D1 vb b) (hT : Tabs w) (h2 : 2 ≤ w.heap.size) :
    Calls Tryd.prog 3 #[va, vb] w fun e w' => e = .returned (.bool true) ∧ Below w.heap.size w w' := by
  have HLive := Lib.hid fun (W : World) (hW : Below w.heap.size w W) => law10_live W (hT.below hW h2) (Nat.le_trans h2 hW.size)
  have HA := Lib.hid ha
  have HB := Lib.hid hb
  have HSA := Lib.hid fun (W : World) (hW : Below w.heap.size w W) => (ha.below hW).src u_len u_one (by decide)
  have HSB := Lib.hid fun (W : World) (hW : Below w.heap.size w W) => (hb.below hW).src u_len u_one (by decide)
  obtain ⟨A, cA, rfl, -, p2, -⟩ := ha
  obtain ⟨B, cB, rfl, -, q2, -⟩ := hb
  clear hT
  obtain ⟨na, hna⟩ : ∃ n, n = a.length := ⟨_, rfl⟩
  obtain ⟨nb, hnb⟩ : ∃ n, n = b.length := ⟨_, rfl⟩
  rw [← hna] at HA HSA ⊢
  rw [← hnb] at HB HSB ⊢
  have HNA := Lib.hid hna
  have HNB := Lib.hid hnb
  clear hna hnb p2 q2
  by_cases hla : 200 < na
  · have hd : decide ((na : Int) > 200) = true := decide_eq_true (by omega)
    have hd' : decide ((200 : Int) < (na : Int)) = true := decide_eq_true (by omega)
    clear hla
    go_enter Tryd.func3, Tryd.ntmps3
    go_wp2_with fail
    refine (HLive.out w (Below.refl _ _)).mono ?_
    rintro e w1 ⟨rfl, hb1⟩
    have HB1 := Lib.hid hb1
    clear hb1
    go_wp2_with fail
    refine (HLive.out w1 HB1.out).mono ?_
    rintro e w2 ⟨rfl, hb2⟩
    have HB2 := Lib.hid (bthen HB1.out hb2)
    clear hb2
    go_wp2_with fail
    go_ret
    exact ⟨rfl, HB2.out⟩
  · have hd : decide ((na : Int) > 200) = false := decide_eq_false (by omega)
    have hd' : decide ((200 : Int) < (na : Int)) = false := decide_eq_false (by omega)
    by_cases hlb : 200 < nb
    · have hd1 : decide ((nb : Int) > 200) = true := decide_eq_true (by omega)
      have hd1' : decide ((200 : Int) < (nb : Int)) = true := decide_eq_true (by omega)
      clear hla hlb
      go_enter Tryd.func3, Tryd.ntmps3
      go_wp2_with fail
      refine (HLive.out w (Below.refl _ _)).mono ?_
      rintro e w1 ⟨rfl, hb1⟩
      have HB1 := Lib.hid hb1
      clear hb1
      go_wp2_with fail
      refine (HLive.out w1 HB1.out).mono ?_
      rintro e w2 ⟨rfl, hb2⟩
      have HB2 := Lib.hid (bthen HB1.out hb2)
      clear hb2
      go_wp2_with fail
      go_ret
      exact ⟨rfl, HB2.out⟩
    · have hd1 : decide ((nb : Int) > 200) = false := decide_eq_false (by omega)
      have hd1' : decide ((200 : Int) < (nb : Int)) = false := decide_eq_false (by omega)
      have HKA : Hid (a.length ≤ 400000) := Lib.hid (by rw [← HNA.out]; omega)
      have HKB : Hid (b.length ≤ 400000) := Lib.hid (by rw [← HNB.out]; omega)
      have hna9 : na ≤ 200 := by omega
      have hnb9 : nb ≤ 200 := by omega
      clear hla hlb
      go_enter Tryd.func3, Tryd.ntmps3
      go_wp2_with fail
      refine (HLive.out w (Below.refl _ _)).mono ?_
      rintro e w1 ⟨rfl, hb1⟩
      have HB1 := Lib.hid hb1
      have HBa := Lib.hid (bthen hb1 (balloc (Below.refl _ _) (.cells #[] 30)))
      have HO1 := Lib.hid (World.ownsRow_lit (base := w1.heap.size) (e := 30) (size := 1) w1 #[] 0 (Nat.le_refl _) (by decide) rfl)
      have HBb : Hid (Below w1.heap.size w1 (w1.alloc (.cells #[] 30))) := Lib.hid (balloc (Below.refl _ _) _)
      clear hb1
      go_wp2_with (at_builtin; refine wpList_app (w0 := w1) w1.heap.size rfl _ _ 22 30 _ 1 8 na (a.flatMap encU) rfl Tryd.underlying22 info_u64 rfl (by decide) (by decide) (.slice (some ⟨w1.heap.size, 0, none⟩) 0 0) 0 [] ?hs1 ?hx1 HO1.out HBb.out (by simp) (by omega) ?_)
      try (case hs1 => rfl)
      case hx1 => exact HSA.out _ HBa.out
      intro v2 w2 hO2 hB2 hg2 hat2
      try simp only [Nat.zero_add, List.nil_append] at hO2
      obtain ⟨A2, c2, rfl⟩ := own_slice hO2
      have HO2 := Lib.hid hO2
      have HB2 := Lib.hid (bthen HB1.out hB2)
      have HBa2 := Lib.hid (bthen HB2.out (balloc (Below.refl _ _) (.cells #[] 30)))
      have HO3 := Lib.hid (World.ownsRow_lit (base := w2.heap.size) (e := 30) (size := 1) w2 #[] 0 (Nat.le_refl _) (by decide) rfl)
      have HBb2 : Hid (Below w2.heap.size w2 (w2.alloc (.cells #[] 30))) := Lib.hid (balloc (Below.refl _ _) _)
      clear hO2 hB2 hg2 hat2 HO1
      go_wp2_with (at_builtin; refine wpList_app (w0 := w2) w2.heap.size rfl _ _ 22 30 _ 1 8 nb (b.flatMap encU) rfl Tryd.underlying22 info_u64 rfl (by decide) (by decide) (.slice (some ⟨w2.heap.size, 0, none⟩) 0 0) 0 [] ?hs2 ?hx2 HO3.out HBb2.out (by simp) (by omega) ?_)
      try (case hs2 => rfl)
      case hx2 => exact HSB.out _ HBa2.out
      intro v3 w3 hO3 hB3 hg3 hat3
      try simp only [Nat.zero_add, List.nil_append] at hO3
      obtain ⟨A3, c3, rfl⟩ := own_slice hO3
      have hs2 := own_slc encU_len HNA.out (own_below HO2.out hB3)
      have hs3 := own_slc encU_len HNB.out hO3
      have HS2 := Lib.hid hs2
      have HS3 := Lib.hid hs3
      have HB3 := Lib.hid (bthen HB2.out hB3)
      have hand := post_and _ _ a b w3 hs2 (by have := HKA.out; omega) hs3 (by have := HKB.out; omega)
      unfold OwnPost at hand
      have HAnd := Lib.hid hand
      clear hO3 hB3 hg3 hat3 HO3 hs2 hs3 hand
      go_wp2_with fail
      refine HAnd.out.mono ?_
      rintro e w4 ⟨v4, rfl, ho4, hb4⟩
      obtain ⟨A4, c4, rfl⟩ := own_slice ho4
      have HS4 := Lib.hid (own_slc encU_len rfl ho4)
      have HS24 := Lib.hid (HS2.out.below hb4)
      have HS34 := Lib.hid (HS3.out.below hb4)
      have HB4 := Lib.hid (bthen HB3.out hb4)
      have hor := post_or _ _ a b w4 HS24.out HKA.out HS34.out HKB.out
      unfold OwnPost at hor
      have HOr := Lib.hid hor
      clear ho4 hb4 hor
      go_wp2_with fail
      refine HOr.out.mono ?_
      rintro e w5 ⟨v5, rfl, ho5, hb5⟩
      obtain ⟨A5, c5, rfl⟩ := own_slice ho5
      have HS5 := Lib.hid (own_slc encU_len rfl ho5)
      have HS45 := Lib.hid (HS4.out.below hb5)
      have HS25 := Lib.hid (HS24.out.below hb5)
      have HS35 := Lib.hid (HS34.out.below hb5)
      have HB5 := Lib.hid (bthen HB4.out hb5)
      have hless := post_less _ _ a b w5 HS25.out (by have := HKA.out; omega) HS35.out (by have := HKB.out; omega)
      unfold OwnPost at hless
      have HLess := Lib.hid hless
      clear ho5 hb5 hless
      go_wp2_with fail
      refine HLess.out.mono ?_
      rintro e w6 ⟨v6, rfl, ho6, hb6⟩
      obtain ⟨A6, c6, rfl⟩ := own_slice ho6
      have HS6 := Lib.hid (own_slc encU_len rfl ho6)
      have HS46 := Lib.hid (HS45.out.below hb6)
      have HS56 := Lib.hid (HS5.out.below hb6)
      have HS26 := Lib.hid (HS25.out.below hb6)
      have HS36 := Lib.hid (HS35.out.below hb6)
      have HB6 := Lib.hid (bthen HB5.out hb6)
      have hra := ref_and _ _ a b w6 (HA.out.below HB6.out) HKA.out (HB.out.below HB6.out) HKB.out
      unfold SetPost at hra
      have HRa := Lib.hid hra
      clear ho6 hb6 hra
      go_wp2_with fail
      refine HRa.out.mono ?_
      rintro e w7 ⟨v7, rfl, hs7, hb7⟩
      obtain ⟨A7, c7, rfl, -⟩ := id hs7
      have HB7 := Lib.hid (bthen HB6.out hb7)
      have HS47 := Lib.hid (HS46.out.below hb7)
      have HS57 := Lib.hid (HS56.out.below hb7)
      have HS67 := Lib.hid (HS6.out.below hb7)
      have HS27 := Lib.hid (HS26.out.below hb7)
      have HS37 := Lib.hid (HS36.out.below hb7)
      have hn1 := law_numbers _ _ _ _ w7 HS47.out hs7
      simp only [decide_true] at hn1
      have HN1 := Lib.hid hn1
      clear hs7 hb7 hn1
      go_wp2_with fail
      refine HN1.out.mono ?_
      rintro e w8 ⟨rfl, hb8⟩
      have HB8 := Lib.hid (bthen HB7.out hb8)
      have HS58 := Lib.hid (HS57.out.below hb8)
      have HS68 := Lib.hid (HS67.out.below hb8)
      have HS28 := Lib.hid (HS27.out.below hb8)
      have HS38 := Lib.hid (HS37.out.below hb8)
      have hro := ref_or _ _ a b w8 (HA.out.below HB8.out) HKA.out (HB.out.below HB8.out) HKB.out
      unfold SetPost at hro
      have HRo := Lib.hid hro
      clear hb8 hro
      go_wp2_with fail
      refine HRo.out.mono ?_
      rintro e w9 ⟨v9, rfl, hs9, hb9⟩
      obtain ⟨A9, c9, rfl, -⟩ := id hs9
      have HB9 := Lib.hid (bthen HB8.out hb9)
      have HS69 := Lib.hid (HS68.out.below hb9)
      have HS29 := Lib.hid (HS28.out.below hb9)
      have HS39 := Lib.hid (HS38.out.below hb9)
      have hn2 := law_numbers _ _ _ _ w9 (HS58.out.below hb9) hs9
      simp only [decide_true] at hn2
      have HN2 := Lib.hid hn2
      clear hs9 hb9 hn2
      go_wp2_with fail
      refine HN2.out.mono ?_
      rintro e w10 ⟨rfl, hb10⟩
      have HB10 := Lib.hid (bthen HB9.out hb10)
      have HS610 := Lib.hid (HS69.out.below hb10)
      have HS210 := Lib.hid (HS29.out.below hb10)
      have HS310 := Lib.hid (HS39.out.below hb10)
      have hrl := ref_less _ _ a b w10 (HA.out.below HB10.out) HKA.out (HB.out.below HB10.out) HKB.out
      unfold SetPost at hrl
      have HRl := Lib.hid hrl
      clear hb10 hrl
      go_wp2_with fail
      refine HRl.out.mono ?_
      rintro e w11 ⟨v11, rfl, hs11, hb11⟩
      obtain ⟨A11, c11, rfl, -⟩ := id hs11
      have HB11 := Lib.hid (bthen HB10.out hb11)
      have HS211 := Lib.hid (HS210.out.below hb11)
      have HS311 := Lib.hid (HS310.out.below hb11)
      have hn3 := law_numbers _ _ _ _ w11 (HS610.out.below hb11) hs11
      simp only [decide_true] at hn3
      have HN3 := Lib.hid hn3
      clear hs11 hb11 hn3
      go_wp2_with fail
      refine HN3.out.mono ?_
      rintro e w12 ⟨rfl, hb12⟩
      have HB12 := Lib.hid (bthen HB11.out hb12)
      have HS312 := Lib.hid (HS311.out.below hb12)
      have hn4 := law_numbers _ _ _ _ w12 (HS211.out.below hb12) (HA.out.below HB12.out)
      simp only [decide_true] at hn4
      have HN4 := Lib.hid hn4
      clear hb12 hn4
      go_wp2_with fail
      refine HN4.out.mono ?_
      rintro e w13 ⟨rfl, hb13⟩
      have HB13 := Lib.hid (bthen HB12.out hb13)
      have hn5 := law_numbers _ _ _ _ w13 (HS312.out.below hb13) (HB.out.below HB13.out)
      simp only [decide_true] at hn5
      have HN5 := Lib.hid hn5
      clear hb13 hn5
      go_wp2_with fail
      refine HN5.out.mono ?_
      rintro e w14 ⟨rfl, hb14⟩
      have HB14 := Lib.hid (bthen HB13.out hb14)
      clear hb14
      go_wp2_with fail
      go_ret
      exact ⟨rfl, HB14.out⟩
end Go.Proofs.YtcbhdecinfbakaaDoor
