import Derived.Test.YtbjglcdoekbloaaGreatDoorGRqD
import Derived.Test.YtbjglcdoekbloaaGreatDoorGRwF
import Derived.Test.YtbjglcdoekbloaaGreatDoorGLaA
set_option linter.unusedSimpArgs false
set_option linter.unusedVariables false
set_option linter.unusedSectionVars false
/- the law HeadPlans: it returns true. -/
namespace Go.Proofs.YtbjglcdoekbloaaGreatDoor
open Go.RowKit Go.Proofs.YtbjglcdoekbloaaGreatDoor.MapRaw Go.ChangeMaps

theorem max_bound : ∀ (K : List Ky) (m B : Int), m ≤ B → (∀ k ∈ K, k.1 ≤ B) → K.foldl (fun m k => max m k.1) m ≤ B
  | [], _, _, h, _ => h
  | k :: K, m, B, h, h2 => by
    rw [List.foldl_cons]
    exact max_bound K _ B (Int.max_le.2 ⟨h, h2 k (List.mem_cons_self ..)⟩) (fun k hk => h2 k (List.mem_cons_of_mem _ hk))
theorem pr_hplan {w0 W : World} {hp xp : Nat} {K : List Ky} {o : HLoc} {X : List Nat} {v pv : Value} {l : List Sr} {ps : List Po} {seq : Int} {D : Nat → Prop} (h : Pr w0 hp xp (ofF K) K o X v l W) (hK : RightK K) (hu : ∀ k ∈ K, k.1 < 4294967296) (hpv : Slc 4 Po.enc W D pv ps) (hpo : PoOk W D ps) (hT : Tabs W) (h2 : 2 ≤ W.heap.size) :
    Calls Tryz.prog 11 #[.pointer (some ⟨hp, 0, none⟩), .int .u64 seq, pv] W (PlanPost W (planK K seq ps)) := by
  have hb : maxK K ≤ 4294967295 := max_bound K 0 _ (by omega) (fun k hk => by have := hu k hk; omega)
  have := head_plan seq pv ps W h.head hpv hpo hT h2 (by rw [of_top]; exact ⟨(max_le (K := K)).2, hb⟩) (by rw [h.of.len]; have := hK.len; omega)
  rw [plan_same h.of (of_top K), h.hp] at this
  exact this
theorem pr_rplan {w0 W : World} {hp xp : Nat} {H : Hd} {K : List Ky} {o : HLoc} {X : List Nat} {v pv : Value} {l : List Sr} {ps : List Po} {seq : Int} {D : Nat → Prop} (h : Pr w0 hp xp H K o X v l W) (hK : RightK K) (hu : ∀ k ∈ K, k.1 < 4294967296) (hpv : Slc 4 Po.enc W D pv ps) (hpo : PoOk W D ps) :
    Calls Tryz.prog 12 #[.pointer (some ⟨xp, 0, none⟩), .int .u64 seq, pv] W (RPlanPost W (planK K seq ps)) := by
  have c0 := blk_cell h.ref.hc 0
  simp at c0
  have hk : ∀ x ∈ l, x.key ∈ K := fun x hx => by rw [← h.keys]; exact List.mem_map_of_mem hx
  have hlen : l.length = K.length := by rw [← h.keys, List.length_map]
  have := ref14_plan xp v pv l seq ps W c0 h.ref.slc h.ref.ok hpv hpo (by rw [hlen]; exact hK.len) (by rw [h.keys]; exact ⟨hK.rise, fun k hk => (hK.ok k hk).2.2⟩) (by rw [h.keys]; exact fun k hk => (hK.ok k hk).1) (fun x hx => ⟨by have := (hK.ok _ (hk x hx)).1; exact Int.le_of_lt this, hu _ (hk x hx)⟩) (fun x hx => by have := rightF_len (hK.ok _ (hk x hx)).2.1; exact Nat.le_trans this (by omega))
  rw [h.keys] at this
  exact this
set_option maxRecDepth 100000 in
set_option maxHeartbeats 2000000 in
theorem law_plan {D : Nat → Prop} (sv pv : Value) (l : List Sr) (seq : Int) (ps : List Po) (w : World) (hsv : Slc 3 Sr.enc w D sv l) (hl : SrOk w D l) (hz : ∀ x ∈ l, SzL x.lab) (hu : ∀ x ∈ l, U32 x.ref) (hpv : Slc 4 Po.enc w D pv ps) (hpo : PoOk w D ps) (hT : Tabs w) (h2 : 2 ≤ w.heap.size) :
    Calls Tryz.prog 3 #[sv, .int .u64 seq, pv] w fun e w' => e = .returned (.bool true) ∧ Below w.heap.size w w' := by
  have hlive := fun (W : World) (hW : Below w.heap.size w W) => law_live W (hT.below hW h2) (Nat.le_trans h2 hW.size)
  have hfew := fun (W : World) (hW : Below w.heap.size w W) => law_few sv l W (hsv.below hW) (hl.below hW) hz
  have hposts := fun (W : World) (hW : Below w.heap.size w W) => law_posts pv ps W (hpv.below hW) (hpo.below hW)
  have HLive := Lib.hid hlive
  have HFew := Lib.hid hfew
  have HPosts := Lib.hid hposts
  have HSv := Lib.hid hsv
  have HL := Lib.hid hl
  have HZ := Lib.hid hz
  have HU := Lib.hid hu
  have HPv := Lib.hid hpv
  have HPo := Lib.hid hpo
  have HT := Lib.hid hT
  obtain ⟨A, c, rfl, -⟩ := hsv
  obtain ⟨A1, c1, rfl, -⟩ := hpv
  obtain ⟨m, hmm⟩ : ∃ m, m = l.length := ⟨_, rfl⟩
  obtain ⟨n, hnn⟩ : ∃ n, n = ps.length := ⟨_, rfl⟩
  rw [← hmm] at HFew ⊢
  rw [← hnn] at HPosts ⊢
  have Hm := Lib.hid hmm
  have Hn := Lib.hid hnn
  clear hlive hfew hposts hl hz hu hpo hT hmm hnn
  cases hf : fewF l with
  | false =>
    rw [hf] at HFew
    clear hf
    go_enter Tryz.func3, Tryz.ntmps3
    go_wp2_with fail
    refine (HLive.out _ (Below.refl _ _)).mono ?_
    rintro e w1 ⟨rfl, hb1⟩
    go_wp2_with fail
    refine (HFew.out _ hb1).mono ?_
    rintro e w2 ⟨rfl, hb2⟩
    have HB2 := Lib.hid (bthen hb1 hb2)
    clear hb1 hb2
    go_wp2_with fail
    refine (HLive.out _ HB2.out).mono ?_
    rintro e w3 ⟨rfl, hb3⟩
    have HB3 := Lib.hid (bthen HB2.out hb3)
    clear hb3
    go_wp2_with fail
    go_ret
    exact ⟨rfl, HB3.out⟩
  | true =>
    have HFw := Lib.hid hf
    rw [hf] at HFew
    clear hf
    cases hf : postsF ps with
    | false =>
      rw [hf] at HPosts
      clear hf
      go_enter Tryz.func3, Tryz.ntmps3
      go_wp2_with fail
      refine (HLive.out _ (Below.refl _ _)).mono ?_
      rintro e w1 ⟨rfl, hb1⟩
      go_wp2_with fail
      refine (HFew.out _ hb1).mono ?_
      rintro e w2 ⟨rfl, hb2⟩
      have HB2 := Lib.hid (bthen hb1 hb2)
      clear hb1 hb2
      go_wp2_with fail
      refine (HPosts.out _ HB2.out).mono ?_
      rintro e w3 ⟨rfl, hb3⟩
      have HB3 := Lib.hid (bthen HB2.out hb3)
      clear hb3
      go_wp2_with fail
      refine (HLive.out _ HB3.out).mono ?_
      rintro e w4 ⟨rfl, hb4⟩
      have HB4 := Lib.hid (bthen HB3.out hb4)
      clear hb4
      go_wp2_with fail
      go_ret
      exact ⟨rfl, HB4.out⟩
    | true =>
      rw [hf] at HPosts
      clear hf
      have hsm : l.length ≤ 60 ∧ ∀ x ∈ l, x.lab.length ≤ 30 ∧ x.pts.length ≤ 200 := by
        have h1 := HFw.out
        unfold fewF at h1
        simp only [Bool.and_eq_true, Bool.not_eq_true', decide_eq_true_eq] at h1
        refine ⟨h1.2, fun x hx => ?_⟩
        have h3 := List.any_eq_false.1 h1.1 x hx
        unfold fewB bigF at h3
        simp only [Bool.or_eq_true, decide_eq_true_eq, not_or] at h3
        omega
      have hbeg := fun (W : World) (hW : Below w.heap.size w W) => law_begun (D := D) _ l W (HSv.out.below hW) (HL.out.below hW) HZ.out HU.out (by omega) (fun x hx => by have := hsm.2 x hx; omega) (HT.out.below hW h2) (Nat.le_trans h2 hW.size)
      have huk : ∀ k ∈ l.map Sr.key, k.1 < 4294967296 := fun k hk => by
        obtain ⟨x, hx, rfl⟩ := List.mem_map.1 hk
        exact (HU.out x hx).2
      rw [← Hm.out] at hbeg
      unfold BegunPost at hbeg
      have HBeg := Lib.hid hbeg
      have HUk := Lib.hid huk
      generalize l.map Sr.key = K at *
      clear hsm hbeg huk
      go_enter Tryz.func3, Tryz.ntmps3
      go_wp2_with fail
      refine (HLive.out _ (Below.refl _ _)).mono ?_
      rintro e w1 ⟨rfl, hb1⟩
      go_wp2_with fail
      refine (HFew.out _ hb1).mono ?_
      rintro e w2 ⟨rfl, hb2⟩
      have HB2 := Lib.hid (bthen hb1 hb2)
      clear hb1 hb2
      go_wp2_with fail
      refine (HPosts.out _ HB2.out).mono ?_
      rintro e w3 ⟨rfl, hb3⟩
      have HB3 := Lib.hid (bthen HB2.out hb3)
      clear hb3
      go_wp2_with fail
      refine (HBeg.out _ HB3.out).mono ?_
      rintro e w5 (⟨rfl, hb5⟩ | ⟨hRK, xp, o, X, v, l0, rfl, hP⟩)
      · have HB5 := Lib.hid (bthen HB3.out hb5)
        clear hb5
        go_wp2_with fail
        go_ret
        exact ⟨rfl, HB5.out⟩
      · have HPr := Lib.hid hP
        have HRK := Lib.hid hRK
        have HB5 := Lib.hid (bthen HB3.out hP.below)
        have hpo := hP.hp
        have hcallA := pr_hplan (seq := seq) hP hRK HUk.out (HPv.out.below HB5.out) (HPo.out.below HB5.out) (HT.out.below HB5.out h2) (Nat.le_trans h2 HB5.out.size)
        have hcallB := fun (W : World) (hW : Below w5.heap.size w5 W) => pr_rplan (seq := seq) (hP.then hW) hRK HUk.out (HPv.out.below (bthen HB5.out hW)) (HPo.out.below (bthen HB5.out hW))
        rw [← Hn.out] at hcallA hcallB
        generalize planK K seq ps = res at *
        have HCallA := Lib.hid hcallA
        have HCallB := Lib.hid hcallB
        have hsame := fun (W : World) (hW : Below w5.heap.size w5 W) => law_same W (hP.then hW) hRK.len
        have HSame := Lib.hid hsame
        clear hP hRK hpo hcallA hcallB hsame
        go_wp2_with fail
        refine HCallA.out.mono ?_
        rintro e w6 ⟨rv, mv, rl, rfl, hs6, ho6, hr6, hm6, hb6⟩
        have HS6 := Lib.hid hs6
        have HO6 := Lib.hid ho6
        have HR6 := Lib.hid hr6
        have HM6 := Lib.hid hm6
        obtain ⟨A6, c6, rfl, -⟩ := hs6
        obtain ⟨B6, d6, rfl, -⟩ := hm6
        have HB6 := Lib.hid hb6
        clear ho6 hr6 hb6
        go_wp2_with fail
        refine (HCallB.out _ HB6.out).mono ?_
        rintro e w7 ⟨ov, nv, ol, rfl, hs7, ho7, hr7, hm7, hb7⟩
        have hplans := fun (W : World) (hW : Below w7.heap.size w7 W) => law_plans _ _ _ _ rl ol _ W (HS6.out.below (bthen hb7 hW)) (hs7.below hW) (HO6.out.belo (bthen hb7 hW)) (ho7.belo hW) (HR6.out.trans hr7.symm) (HM6.out.below (bthen hb7 hW)) (hm7.below hW)
        have HPlans := Lib.hid hplans
        have HB7 := Lib.hid (bthen HB6.out hb7)
        obtain ⟨A7, c7, rfl, -⟩ := hs7
        obtain ⟨B7, d7, rfl, -⟩ := hm7
        generalize rl.length = n1 at *
        generalize ol.length = n2 at *
        obtain ⟨r1, r2, r3⟩ := res
        simp only at HPlans
        generalize r2.length = n3 at *
        clear ho7 hr7 hb7 hplans
        have heq : (r3 == r3) = true := by simp
        go_wp2_with fail
        refine (HPlans.out _ (Below.refl _ _)).mono ?_
        rintro e w8 ⟨rfl, hb8⟩
        have HB8 := Lib.hid (bthen HB7.out hb8)
        clear hb8
        go_wp2_with fail
        refine (HSame.out _ HB8.out).mono ?_
        rintro e w9 ⟨rfl, hb9⟩
        have HB9 := Lib.hid (bthen HB5.out (bthen HB8.out hb9))
        clear hb9
        go_wp2_with fail
        go_ret
        exact ⟨rfl, HB9.out⟩
end Go.Proofs.YtbjglcdoekbloaaGreatDoor
