import Derived.Test.YtlhmdgaohonpbaaGreatDoorGKC
import Derived.Test.YtlhmdgaohonpbaaGreatDoorGKA
set_option linter.unusedSimpArgs false
set_option linter.unusedVariables false
set_option linter.unusedSectionVars false
namespace Go.Proofs.YtlhmdgaohonpbaaGreatDoor
open Go.RowKit Go.Proofs.YtlhmdgaohonpbaaGreatDoor.MapRaw Go.ChangeMaps
section
variable {pb : Nat} {cv : Value} {cs : List Ch} {p p1 : Ps} {l : List Nc} {w W w' : World} {st : St} {x : Nc} {e : Ending} {r : Int × St}
theorem KTo.setSz (h : KTo pb cv cs p l w st p1 W) (n : Int) : KTo pb cv cs p l w st { p1 with sz := n } (W.setCell ⟨pb, 6, none⟩ (.int .i64 n)) := ⟨h.at_.setSz n, h.lv, by rw [← h.st]; rfl, h.apart.trans (setA _) (fun _ _ h => h)⟩
theorem KTo.setPl (h : KTo pb cv cs p l w st p1 W) (n : Bool) : KTo pb cv cs p l w st { p1 with pl := n } (W.setCell ⟨pb, 7, none⟩ (.bool n)) := ⟨h.at_.setPl n, h.lv, by rw [← h.st]; rfl, h.apart.trans (setA _) (fun _ _ h => h)⟩
theorem KTo.setD (h : KTo pb cv cs p l w st p1 W) (n : Int) : KTo pb cv cs p l w { st with deep := n } { p1 with deep := n } (W.setCell ⟨pb, 10, none⟩ (.int .i64 n)) := ⟨h.at_.setD n, h.lv, by rw [← h.st]; rfl, h.apart.trans (setA _) (fun _ _ h => h)⟩
theorem kto_add (hT : KTo pb cv cs p l w st p1 W) (hp : AddKPost pb cv cs p1 l x W e w') : KPost pb cv cs w (addN x.key st) e w' := by
 obtain ⟨rfl, v', hK, hA⟩ := hp
 refine ⟨?_, _, _, hK, ?_, (hT.apart.mono (Q := fun k => pb ≤ k) (fun k _ h => Nat.le_of_eq h.symm)).trans hA (fun _ _ h => h)⟩
 ·rw [← hT.st]; simp [addN, Ps.st]
 ·rw [← hT.st]; simp [addN, Ps.st]
theorem KPost.after (hA : Apart (fun k => pb ≤ k) w W) (h : KPost pb cv cs W r e w') : KPost pb cv cs w r e w' := by
 obtain ⟨h1, p', l', h2, h3, h4⟩ := h
 exact ⟨h1, p', l', h2, h3, hA.trans h4 (fun _ _ h => h)⟩
theorem KTo.wide (h : KTo pb cv cs p l w st p1 W) : Apart (fun k => pb ≤ k) w W := h.apart.mono (fun k _ h => Nat.le_of_eq h.symm)
theorem kto_fail {n : Int} (hT : KTo pb cv cs p l w st p1 W) (hp : FailPost pb cv cs p1 l W n e w') : KPost pb cv cs w (0, failS n st) e w' := by
 obtain ⟨rfl, p', h⟩ := hp
 have h2 := hT.then h
 refine ⟨rfl, _, _, h2.at_, ?_, h2.wide⟩
 rw [h2.st, hT.st]
theorem slc_nilK : Slc 2 Sp.enc w (fun k => pb < k ∧ p.lv.ownBlock ≠ some k) (.slice none 0 0) [] := Slc.nil _ _ _ _
end
def AltC (pb : Nat) (cv : Value) (cs : List Ch) (alt : St → Int × St) (dl : Int) : Prop := ∀ (p : Ps) (l : List Nc) (w : World), KAt pb cv cs p l w → p.e = 0 → dl ≤ p.deep → p.deep ≤ 20 → muF (codes cs) (p.st l) ≤ 5000 →
 Calls Tryz.prog 106 #[.pointer (some ⟨pb, 0, none⟩)] w (KPost pb cv cs w (alt (p.st l)))
theorem mu_l {cs : List Ch} {p : Ps} {l : List Nc} : l.length ≤ muF (codes cs) (p.st l) := by
 have := mu_len (codes cs) (p.st l)
 simpa [Ps.st] using this
set_option maxRecDepth 100000 in
set_option maxHeartbeats 4000000 in
theorem k_atom {pb : Nat} {cv : Value} {cs : List Ch} {p : Ps} {l : List Nc} {w : World} {alt : St → Int × St} {dl : Int} (hC : AltC pb cv cs alt dl) (hO : AltOk alt (codes cs)) (h : KAt pb cv cs p l w) (hr : rnF (codes cs) (p.st l) ≠ -2) (hd0 : 0 ≤ p.deep) (hd1 : dl ≤ p.deep + 1) (hd2 : p.deep ≤ 20) (hmu : muF (codes cs) (p.st l) ≤ 5001) :
  Calls Tryz.prog 146 #[.pointer (some ⟨pb, 0, none⟩)] w (KPost pb cv cs w (atomR alt (codes cs) (p.st l))) := by
 obtain ⟨he0, hlt⟩ := now_lt' hr
 have HMl := Lib.hid (show l.length ≤ 100000 by have := mu_l (cs := cs) (p := p) (l := l); omega)
 have HCall := Lib.hid (k_now h)
 have HT0 := Lib.hid (KTo.refl h)
 have HLt := Lib.hid hlt
 have HE0 := Lib.hid he0
 have hwr := i_wrap (Nat.le_of_lt hlt) h.len
 have HMu := Lib.hid hmu
 have HC := Lib.hid hC
 have HO := Lib.hid hO
 have HLen := Lib.hid h.len
 have har : atomR alt (codes cs) (p.st l) = if rnF (codes cs) (p.st l) = 40 then (if p.deep = 20 then (0, failS 60 (p.st l)) else if rnF (codes cs) (alt { stepI (p.st l) with deep := p.deep + 1 }).2 = 41 then ((alt { stepI (p.st l) with deep := p.deep + 1 }).1, { stepI (alt { stepI (p.st l) with deep := p.deep + 1 }).2 with deep := (alt { stepI (p.st l) with deep := p.deep + 1 }).2.deep - 1 }) else (0, failS 8 (alt { stepI (p.st l) with deep := p.deep + 1 }).2))
   else if rnF (codes cs) (p.st l) = 91 then classR (codes cs) (p.st l)
   else if rnF (codes cs) (p.st l) = 46 then addN ⟨0, 0, 0, [], true⟩ (stepI (p.st l))
   else if rnF (codes cs) (p.st l) = 92 then addN ⟨0, 0, 0, (escR (codes cs) (p.st l)).1, false⟩ (escR (codes cs) (p.st l)).2
   else if rnF (codes cs) (p.st l) < 0 ∨ specialF (rnF (codes cs) (p.st l)) = true then (0, failS 8 (p.st l))
   else addN ⟨0, 0, 0, [⟨rnF (codes cs) (p.st l), rnF (codes cs) (p.st l)⟩], false⟩ (stepI (p.st l)) := rfl
 generalize hc : rnF (codes cs) (p.st l) = c at *
 generalize atomR alt (codes cs) (p.st l) = res at *
 have HAr := Lib.hid har
 have HCc := Lib.hid hc
 clear har h hr hlt he0 hmu hC hO hc
 go_enter Tryz.func146, Tryz.ntmps146
 go_wp2_with fail
 refine HCall.out.mono ?_
 rintro e w1 ⟨rfl, hb1⟩
 have HT1 := Lib.hid (HT0.out.below hb1)
 have a6 := HT1.out.at_.cells.2.2.2.1
 have f6 := free_blk (i := 6) HT1.out.at_.blk
 clear hb1
 have HT2 := Lib.hid (HT1.out.setSz (wrap64 (p.sz + 1)))
 have b7 := HT2.out.at_.cells.2.2.2.2.1
 have b1 := HT2.out.at_.cells.2.1
 have g7 := free_blk (i := 7) HT2.out.at_.blk
 have g1 := free_blk (i := 1) HT2.out.at_.blk
 by_cases h40 : c = 40
 ·have e40 : (c == 40) = true := by simpa using h40
  have hres := HAr.out
  rw [if_pos h40] at hres
  have HRes := Lib.hid hres
  have b6 := HT2.out.at_.cells.2.2.2.1
  have g6 := free_blk (i := 6) HT2.out.at_.blk
  have HT3 := Lib.hid (HT2.out.setSz (wrap64 (wrap64 (p.sz + 1) - 1)))
  have c7 := HT3.out.at_.cells.2.2.2.2.1
  have q7 := free_blk (i := 7) HT3.out.at_.blk
  have HT4 := Lib.hid (HT3.out.setPl false)
  have d10 := HT4.out.at_.cells.2.2.2.2.2.2
  have q10 := free_blk (i := 10) HT4.out.at_.blk
  clear hres HAr h40 HCall
  by_cases h20 : p.deep = 20
  ·have e20 : (p.deep == 20) = true := by simpa using h20
   have hr2 : res = (0, failS 60 (p.st l)) := by rw [HRes.out, if_pos h20]
   have HR2 := Lib.hid hr2
   clear h20 hr2
   go_wp2_with fail
   refine (k_fail 60 HT4.out.at_).mono ?_
   rintro e w5 hp
   have hk := kto_fail HT4.out hp
   obtain ⟨rfl, p5, h5⟩ := hp
   have HK := Lib.hid hk
   clear h5 hk
   go_wp2_with fail
   go_ret
   rw [HR2.out]
   exact HK.out
  ·have e20 : (p.deep == 20) = false := by simpa using h20
   have hr2 := HRes.out
   rw [if_neg h20] at hr2
   have hw10 : IntKind.i64.wrap (p.deep + 1) = p.deep + 1 := IntWalk.i64_in _ (by omega)
   have HT5 := Lib.hid (HT4.out.setD (p.deep + 1))
   have k1 := HT5.out.at_.cells.2.1
   have q1 := free_blk (i := 1) HT5.out.at_.blk
   have HT6 := Lib.hid (HT5.out.step HLt.out)
   have hst6 := HT6.out.st
   have hst6' : stepI { p.st l with deep := p.deep + 1 } = { stepI (p.st l) with deep := p.deep + 1 } := rfl
   rw [hst6'] at hst6
   have hi6 : ({ stepI (p.st l) with deep := p.deep + 1 } : St).i ≤ (codes cs).length := by
    have := HLt.out
    have h9 : (codes cs).length = cs.length := by simp [codes]
    show p.i + 1 ≤ (codes cs).length
    omega
   have hm6 : muF (codes cs) ({ stepI (p.st l) with deep := p.deep + 1 }) ≤ 5000 := by
    have h7 : muF (codes cs) ({ stepI (p.st l) with deep := p.deep + 1 }) = muF (codes cs) (stepI (p.st l)) := rfl
    have h8 := mu_fwd (cs := codes cs) (k := 1) (same_step (p.st l)) (Nat.le_refl _) hi6
    have := HMu.out
    omega
   have HAlt := Lib.hid (HC.out _ l _ HT6.out.at_ HE0.out (by show dl ≤ p.deep + 1; exact hd1) (by show p.deep + 1 ≤ 20; omega) (by rw [hst6]; exact hm6))
   rw [hst6] at HAlt
   have hdp : (alt { stepI (p.st l) with deep := p.deep + 1 }).2.e = 0 → (alt { stepI (p.st l) with deep := p.deep + 1 }).2.deep = p.deep + 1 := fun e => (HO.out _ hi6 HE0.out).go.deep e
   have HDp := Lib.hid hdp
   have HWd := Lib.hid HT6.out.wide
   generalize alt { stepI (p.st l) with deep := p.deep + 1 } = x at *
   have HR2 := Lib.hid hr2
   clear h20 hr2 hst6 hst6' hm6 hi6 hdp
   go_wp2_with fail
   refine HAlt.out.mono ?_
   rintro e w7 ⟨rfl, p7, l7, hK7, hst7, hA7⟩
   have HK7 := Lib.hid hK7
   have HA7 := Lib.hid (HWd.out.trans hA7 (fun _ _ h => h))
   have HSt7 := Lib.hid hst7
   have HNow7 := Lib.hid (k_now hK7)
   have hr7 := HR2.out
   rw [← hst7] at hr7
   have hdp7 : p7.e = 0 → p7.deep = p.deep + 1 := fun e => by have := HDp.out; rw [← hst7] at this; exact this e
   have HNl := Lib.hid fun (e : rnF (codes cs) (p7.st l7) ≠ -2) => now_lt' e
   generalize rnF (codes cs) (p7.st l7) = c7' at *
   have HR7 := Lib.hid hr7
   have HDp7 := Lib.hid hdp7
   clear hK7 hst7 hA7 hr7 hdp7
   go_wp2_with fail
   refine HNow7.out.mono ?_
   rintro e w8 ⟨rfl, hb8⟩
   have HT8 := Lib.hid ((KTo.refl HK7.out).below hb8)
   clear hb8
   by_cases h41 : c7' = 41
   ·have e41 : (c7' != 41) = false := by simp [h41]
    obtain ⟨he7, hlt7⟩ := HNl.out (by omega)
    have hd7 := HDp7.out he7
    have m10 := HT8.out.at_.cells.2.2.2.2.2.2
    have n10 := free_blk (i := 10) HT8.out.at_.blk
    have HT9 := Lib.hid (HT8.out.setD (p7.deep - 1))
    have m1 := HT9.out.at_.cells.2.1
    have n1 := free_blk (i := 1) HT9.out.at_.blk
    have HT10 := Lib.hid (HT9.out.step hlt7)
    have hw1 := i_wrap (Nat.le_of_lt hlt7) HLen.out
    have hw10b : IntKind.i64.wrap (p7.deep - 1) = p7.deep - 1 := IntWalk.i64_in _ (by omega)
    have hfin : res = (x.1, stepI { p7.st l7 with deep := p7.deep - 1 }) := by rw [HR7.out, if_pos h41]; rfl
    have HFin := Lib.hid hfin
    clear h41 he7 hlt7 hd7 hfin
    go_wp2_with fail
    go_ret
    rw [HFin.out]
    exact ⟨rfl, _, _, HT10.out.at_, HT10.out.st, HA7.out.trans HT10.out.wide (fun _ _ h => h)⟩
   ·have e41 : (c7' != 41) = true := by simp [h41]
    have hfin : res = (0, failS 8 (p7.st l7)) := by rw [HR7.out, if_neg h41]
    have HFin := Lib.hid hfin
    clear h41 hfin
    go_wp2_with fail
    refine (k_fail 8 HT8.out.at_).mono ?_
    rintro e w9 hp
    have hk := (kto_fail HT8.out hp).after HA7.out
    obtain ⟨rfl, p5, h5⟩ := hp
    have HK := Lib.hid hk
    clear h5 hk
    go_wp2_with fail
    go_ret
    rw [HFin.out]
    exact HK.out
 ·have e40 : (c == 40) = false := by simpa using h40
  have hres := HAr.out
  rw [if_neg h40] at hres
  clear HAr h40 HCall
  by_cases h91 : c = 91
  ·have e91 : (c == 91) = true := by simpa using h91
   rw [if_pos h91] at hres
   have HRes := Lib.hid hres
   have HT3 := Lib.hid (HT2.out.setPl false)
   have hst := HT3.out.st
   have HCl := Lib.hid (k_class HT3.out.at_ (by rw [hst]; exact HCc.out.trans h91) HMl.out)
   rw [hst] at HCl
   clear hres h91 hst
   go_wp2_with fail
   refine HCl.out.mono ?_
   rintro e w4 hp
   have hk := hp.after HT3.out.wide
   obtain ⟨rfl, -⟩ := hp
   have HK := Lib.hid hk
   clear hk
   go_wp2_with fail
   go_ret
   rw [HRes.out]
   exact HK.out
  ·have e91 : (c == 91) = false := by simpa using h91
   rw [if_neg h91] at hres
   clear h91
   by_cases h46 : c = 46
   ·have e46 : (c == 46) = true := by simpa using h46
    rw [if_pos h46] at hres
    have HRes := Lib.hid hres
    have HT3 := Lib.hid (HT2.out.setPl false)
    have k1 := HT3.out.at_.cells.2.1
    have q1 := free_blk (i := 1) HT3.out.at_.blk
    have HT4 := Lib.hid (HT3.out.step HLt.out)
    have HAdd := Lib.hid (k_add ⟨0, 0, 0, .slice none 0 0, [], true⟩ HT4.out.at_ slc_nilK HMl.out)
    clear hres h46
    go_wp2_with fail
    refine HAdd.out.mono ?_
    rintro e w4 hp
    have hk := kto_add HT4.out hp
    obtain ⟨rfl, -⟩ := hp
    have HK := Lib.hid hk
    clear hk
    go_wp2_with fail
    go_ret
    rw [HRes.out]
    exact HK.out
   ·have e46 : (c == 46) = false := by simpa using h46
    rw [if_neg h46] at hres
    clear h46
    by_cases h92 : c = 92
    ·have e92 : (c == 92) = true := by simpa using h92
     rw [if_pos h92] at hres
     have HRes := Lib.hid hres
     have hst := HT2.out.st
     have HEsc := Lib.hid (k_escape HT2.out.at_ (by rw [hst]; exact HCc.out.trans h92))
     rw [hst] at HEsc
     clear hres h92 hst
     generalize escR (codes cs) (p.st l) = es at *
     obtain ⟨G, st4⟩ := es
     go_wp2_with fail
     refine HEsc.out.mono ?_
     rintro e w4 ⟨gv, p4, rfl, hO, hT⟩
     have HT4 := Lib.hid (HT2.out.then hT)
     have HO4 := Lib.hid hO
     have HPbl : Hid (pb < (w1.setCell ⟨pb, 6, none⟩ (.int .i64 (wrap64 (p.sz + 1)))).heap.size) := Lib.hid HT2.out.at_.lt
     have HLvl : Hid (∀ k, p4.lv.ownBlock = some k → k < (w1.setCell ⟨pb, 6, none⟩ (.int .i64 (wrap64 (p.sz + 1)))).heap.size) := Lib.hid fun k hk => by rw [hT.lv] at hk; exact (ownsRow_blk HT2.out.at_.row k hk).2
     have HSlc : Hid (∀ W, OwnR W (w1.setCell ⟨pb, 6, none⟩ (.int .i64 (wrap64 (p.sz + 1)))).heap.size gv G → Slc 2 Sp.enc W (fun k => pb < k ∧ p4.lv.ownBlock ≠ some k) gv G) := Lib.hid fun W hW => (own_slc (enc := Sp.enc) (fun _ => rfl) rfl hW).mono (fun k _ hk => ⟨by have := HPbl.out; omega, fun e => by have := HLvl.out k e; omega⟩)
     have HMv : Hid (∀ W b, OwnR W (w1.setCell ⟨pb, 6, none⟩ (.int .i64 (wrap64 (p.sz + 1)))).heap.size gv G → OwnR (W.setCell ⟨pb, 7, none⟩ b) (w1.setCell ⟨pb, 6, none⟩ (.int .i64 (wrap64 (p.sz + 1)))).heap.size gv G) := Lib.hid fun W b hW => ownsRow_move hW (fun k hk => Below.heap_setCell _ _ _ _ (by have := (ownsRow_blk hW k hk).1; have := HPbl.out; show k ≠ pb; omega))
     obtain ⟨A4, c4, rfl⟩ := own_slice hO
     have r7 := HT4.out.at_.cells.2.2.2.2.1
     have t7 := free_blk (i := 7) HT4.out.at_.blk
     clear hO hT
     cases hpl : p4.pl with
     | false =>
      rw [hpl] at r7
      have HT5 := Lib.hid (HT4.out.setPl false)
      have HAdd := Lib.hid (k_add ⟨0, 0, 0, .slice A4 G.length c4, G, false⟩ HT5.out.at_ (HSlc.out _ (HMv.out _ _ HO4.out)) HMl.out)
      clear hpl
      go_wp2_with fail
      refine HAdd.out.mono ?_
      rintro e w6 hp
      have hk := kto_add HT5.out hp
      obtain ⟨rfl, -⟩ := hp
      have HK := Lib.hid hk
      clear hk
      go_wp2_with fail
      go_ret
      rw [HRes.out]
      exact HK.out
     | true =>
      rw [hpl] at r7
      have HW := Lib.hid (k_wide w4 HO4.out)
      clear hpl
      go_wp2_with fail
      refine HW.out.mono ?_
      rintro e w5 ⟨rfl, hb5⟩
      have HT5 := Lib.hid (HT4.out.below hb5)
      have HT6 := Lib.hid (HT5.out.setPl (!wideR G))
      have HAdd := Lib.hid (k_add ⟨0, 0, 0, .slice A4 G.length c4, G, false⟩ HT6.out.at_ (HSlc.out _ (HMv.out _ _ (own_below HO4.out hb5))) HMl.out)
      have r7 := HT5.out.at_.cells.2.2.2.2.1
      have t7 := free_blk (i := 7) HT5.out.at_.blk
      clear hb5
      go_wp2_with fail
      refine HAdd.out.mono ?_
      rintro e w6 hp
      have hk := kto_add HT6.out hp
      obtain ⟨rfl, -⟩ := hp
      have HK := Lib.hid hk
      clear hk
      go_wp2_with fail
      go_ret
      rw [HRes.out]
      exact HK.out
    ·have e92 : (c == 92) = false := by simpa using h92
     rw [if_neg h92] at hres
     clear h92
     have HSp := Lib.hid fun (W : World) => k_special c W
     by_cases hbad : c < 0 ∨ specialF c = true
     ·rw [if_pos hbad] at hres
      have HRes := Lib.hid hres
      have hcs : decide (c < 0) = true ∨ (decide (c < 0) = false ∧ specialF c = true) := by
       by_cases g : c < 0
       ·exact .inl (decide_eq_true g)
       ·exact .inr ⟨decide_eq_false g, hbad.resolve_left g⟩
      generalize specialF c = sp at *
      clear hres hbad
      rcases hcs with h0 | ⟨h0, rfl⟩
      all_goals
       go_wp2_with fail
       try
        refine (HSp.out _).mono ?_
        rintro e w4 ⟨rfl, rfl⟩
        go_wp2_with fail
       refine (k_fail 8 HT2.out.at_).mono ?_
       rintro e w5 hp
       have hk := kto_fail HT2.out hp
       obtain ⟨rfl, p5, h5⟩ := hp
       have HK := Lib.hid hk
       clear h5 hk
       go_wp2_with fail
       go_ret
       rw [HRes.out]
       exact HK.out
     ·rw [if_neg hbad] at hres
      have HRes := Lib.hid hres
      have h0 : decide (c < 0) = false := decide_eq_false (fun g => hbad (.inl g))
      have hsp : specialF c = false := by cases hh : specialF c with
       | false => rfl
       | true => exact (hbad (.inr hh)).elim
      rw [hsp] at HSp
      have HT3 := Lib.hid (HT2.out.step HLt.out)
      have HT4 := Lib.hid (HT3.out.below (balloc (Below.refl _ _) (.cells #[.int .i32 c, .int .i32 c] 214)))
      have hrow : ∀ k, p.lv.ownBlock = some k → k < w1.heap.size := fun k hk => (ownsRow_blk HT1.out.at_.row k (by rw [HT1.out.lv]; exact hk)).2
      have hpl1 := HT1.out.at_.lt
      have HAdd := Lib.hid (k_add ⟨0, 0, 0, .slice (some ⟨((w1.setCell ⟨pb, 6, none⟩ (.int .i64 (wrap64 (p.sz + 1)))).setCell ⟨pb, 1, none⟩ (.int .i64 ((p.i : Int) + 1))).heap.size, 0, none⟩) 1 1, [⟨c, c⟩], false⟩ HT4.out.at_ ((own_slc (enc := Sp.enc) (fun _ => rfl) rfl (ownR_one (W := (w1.setCell ⟨pb, 6, none⟩ (.int .i64 (wrap64 (p.sz + 1)))).setCell ⟨pb, 1, none⟩ (.int .i64 ((p.i : Int) + 1))) (c := c) (d := c) _ (Nat.le_refl _))).mono (fun k _ hk => by
       rw [setc_size, setc_size] at hk
       exact ⟨by omega, fun e => by have := hrow k e; omega⟩)) HMl.out)
      have hsz2 : ((w1.setCell ⟨pb, 6, none⟩ (.int .i64 (wrap64 (p.sz + 1)))).setCell ⟨pb, 1, none⟩ (.int .i64 ((p.i : Int) + 1))).heap.size = w1.heap.size := by rw [setc_size, setc_size]
      rw [hsz2] at HAdd
      clear hres hbad hsp hrow hpl1 hsz2
      go_wp2_with fail
      refine (HSp.out _).mono ?_
      rintro e w4 ⟨rfl, rfl⟩
      go_wp2_with fail
      refine HAdd.out.mono ?_
      rintro e w6 hp
      have hk := kto_add HT4.out hp
      obtain ⟨rfl, -⟩ := hp
      have HK := Lib.hid hk
      clear hk
      go_wp2_with fail
      go_ret
      rw [HRes.out]
      exact HK.out
end Go.Proofs.YtlhmdgaohonpbaaGreatDoor

namespace Go.Proofs.YtlhmdgaohonpbaaGreatDoor
open Go.RowKit Go.Proofs.YtlhmdgaohonpbaaGreatDoor.MapRaw Go.ChangeMaps
theorem piece_none {alt : St → Int × St} {cs : List Int} {st : St} {x : Int × St} (hx : atomR alt cs st = x) (h : kindOf (rnF cs x.2) = 6) : pieceR alt cs st = x := by
 unfold pieceR
 simp only
 rw [hx, if_pos h]
theorem piece_sign {alt : St → Int × St} {cs : List Int} {st : St} {x : Int × St} (hx : atomR alt cs st = x) (h : kindOf (rnF cs x.2) ≠ 6) : pieceR alt cs st = addN ⟨kindOf (rnF cs x.2), x.1, 0, [], false⟩ (stepI x.2) := by
 unfold pieceR
 simp only
 rw [hx, if_neg h]
theorem branch_go {alt : St → Int × St} {cs : List Int} {k : Nat} {n : Int} {st : St} (h : goesOn (rnF cs st) = true) : branchL alt cs (k + 1) n st = branchL alt cs k (addN ⟨1, n, (pieceR alt cs st).1, [], false⟩ (pieceR alt cs st).2).1 (addN ⟨1, n, (pieceR alt cs st).1, [], false⟩ (pieceR alt cs st).2).2 := by
 show (if goesOn (rnF cs st) = true then _ else _) = _
 rw [if_pos h]
theorem branch_stop {alt : St → Int × St} {cs : List Int} {k : Nat} {n : Int} {st : St} (h : goesOn (rnF cs st) = false) : branchL alt cs (k + 1) n st = (n, st) := by
 show (if goesOn (rnF cs st) = true then _ else _) = _
 rw [if_neg (by rw [h]; decide)]
set_option maxRecDepth 100000 in
set_option maxHeartbeats 4000000 in
theorem k_branch {pb : Nat} {cv : Value} {cs : List Ch} {p : Ps} {l : List Nc} {w : World} {alt : St → Int × St} {dl : Int} (hC : AltC pb cv cs alt dl) (hO : AltOk alt (codes cs)) (h : KAt pb cv cs p l w) (he : p.e = 0) (hd0 : 0 ≤ p.deep) (hd1 : dl ≤ p.deep + 1) (hd2 : p.deep ≤ 20) (hmu : muF (codes cs) (p.st l) ≤ 5000) :
  Calls Tryz.prog 131 #[.pointer (some ⟨pb, 0, none⟩)] w (KPost pb cv cs w (branchR alt (codes cs) (p.st l))) := by
 have HAdd := Lib.hid (k_add ⟨6, 0, 0, .slice none 0 0, [], false⟩ h slc_nilK (by have := mu_l (cs := cs) (p := p) (l := l); omega))
 have HK := Lib.hid h
 have hcl : (codes cs).length = cs.length := by simp [codes]
 obtain ⟨tot, htt⟩ : ∃ tot, branchL alt (codes cs) ((codes cs).length + 2) (addN ⟨6, 0, 0, [], false⟩ (p.st l)).1 (addN ⟨6, 0, 0, [], false⟩ (p.st l)).2 = tot := ⟨_, rfl⟩
 have htt2 : branchR alt (codes cs) (p.st l) = tot := htt
 rw [htt2]
 rw [hcl] at htt
 have HTt := Lib.hid htt
 have hm1 := mu_add (codes cs) ⟨6, 0, 0, [], false⟩ (p.st l)
 have HM1 : Hid (muF (codes cs) (addN ⟨6, 0, 0, [], false⟩ (p.st l)).2 ≤ 5001) := Lib.hid (by omega)
 have HE := Lib.hid he
 have HC := Lib.hid hC
 have HO := Lib.hid hO
 have HLen := Lib.hid h.len
 have HCl := Lib.hid hcl
 have HAtom := Lib.hid (fun (p' : Ps) (l' : List Nc) (W : World) (h' : KAt pb cv cs p' l' W) (hr : rnF (codes cs) (p'.st l') ≠ -2) (hd : p'.deep = p.deep) (hm : muF (codes cs) (p'.st l') ≤ 5001) => k_atom (alt := alt) (dl := dl) hC hO h' hr (by omega) (by omega) (by omega) hm)
 clear h htt htt2 hcl hm1 he hC hO hmu hd0 hd1 hd2
 go_enter Tryz.func131, Tryz.ntmps131
 go_wp2_with fail
 refine HAdd.out.mono ?_
 rintro e w1 hp
 have hk := kto_add (KTo.refl HK.out) hp
 obtain ⟨rfl, v1, hK1, hA1⟩ := hp
 have HK1 := Lib.hid hK1
 have HA1 := Lib.hid hA1
 have hst1 : ({ p with lv := v1 } : Ps).st (l ++ [⟨6, 0, 0, .slice none 0 0, [], false⟩]) = (addN ⟨6, 0, 0, [], false⟩ (p.st l)).2 := by simp [addN, Ps.st, Nc.key]
 have hn1 : (addN ⟨6, 0, 0, [], false⟩ (p.st l)).1 = ((l.length : Nat) : Int) := by simp [addN, Ps.st]
 have htt := HTt.out
 rw [← hst1, hn1] at htt
 have HM2 : Hid (muF (codes cs) (({ p with lv := v1 } : Ps).st (l ++ [⟨6, 0, 0, .slice none 0 0, [], false⟩])) ≤ 5001) := Lib.hid (by rw [hst1]; exact HM1.out)
 have HTt := Lib.hid htt
 clear hk hK1 hA1 hst1 hn1 htt
 go_wp2_with fail
 go_loopw [3] (fun v wr => ∃ (k : Nat) (n : Int) (p' : Ps) (l' : List Nc), v = .int .i64 n ∧ (1 ≤ k ∧ (p'.e = 0 → cs.length + 2 ≤ p'.i + k)) ∧ branchL alt (codes cs) k n (p'.st l') = tot ∧ (p'.e = 0 → p'.deep = p.deep ∧ muF (codes cs) (p'.st l') ≤ 5001) ∧ KAt pb cv cs p' l' wr ∧ Apart (fun k => pb ≤ k) w wr) (fun _ wr => KM pb wr)
 case atStart => exact ⟨cs.length + 2, _, _, _, rfl, ⟨by omega, fun _ => by omega⟩, HTt.out, fun _ => ⟨rfl, HM2.out⟩, HK1.out, HA1.out⟩
 case round =>
  obtain ⟨k, n, p', l', rfl, ⟨hn1, hn2⟩, htot, hmu, hK, hA⟩ := hrel
  have HKr := Lib.hid hK
  have HAr := Lib.hid hA
  have HN := Lib.hid hn2
  have HMu := Lib.hid hmu
  have HNow := Lib.hid fun (W : World) (hW : Below wr.heap.size wr W) => k_now (hK.below hW)
  cases k with
  | zero => omega
  | succ k =>
   have HTot := Lib.hid htot
   have HLt := Lib.hid fun (g : rnF (codes cs) (p'.st l') ≠ -2) => now_lt' g
   have HGo := Lib.hid (fun (g : goesOn (rnF (codes cs) (p'.st l')) = true) => (branch_go (alt := alt) (k := k) (n := n) g))
   have HStop := Lib.hid (fun (g : goesOn (rnF (codes cs) (p'.st l')) = false) => (branch_stop (alt := alt) (k := k) (n := n) g))
   have HAt := Lib.hid fun (g : rnF (codes cs) (p'.st l') ≠ -2) => HAtom.out p' l'
   have HMv := Lib.hid fun (g : rnF (codes cs) (p'.st l') ≠ -2) => mv_atom HO.out g
   have HMp := Lib.hid fun (g : rnF (codes cs) (p'.st l') ≠ -2) => mv_piece HO.out g
   have HCe := Lib.hid (rfl : rnF (codes cs) (p'.st l') = rnF (codes cs) (p'.st l'))
   obtain ⟨c, hc⟩ : ∃ c, rnF (codes cs) (p'.st l') = c := ⟨_, rfl⟩
   have HCc := Lib.hid hc
   rw [hc] at HNow HLt HGo HStop HMv HMp
   clear htot hmu hK hA hn1 hn2 hc HAt HCe
   by_cases hgo : goesOn c = true
   ·have h2 : c ≠ -2 := goes_now hgo
    have hcs : (c != -2) = true ∧ (c != 124) = true ∧ (c != 41) = true := by
     unfold goesOn at hgo
     simp only [Bool.and_eq_true, Bool.not_eq_true', decide_eq_false_iff_not] at hgo
     refine ⟨by simpa using hgo.1.1, by simpa using hgo.1.2, by simpa using hgo.2⟩
    obtain ⟨b1, b2, b3⟩ := hcs
    obtain ⟨he, hlt⟩ := HLt.out h2
    obtain ⟨hdp, hm⟩ := HMu.out he
    have HE' := Lib.hid he
    have HM' := Lib.hid hm
    have HDp := Lib.hid hdp
    have htot := HTot.out
    rw [HGo.out hgo] at htot
    have HTot := Lib.hid htot
    have HH2 := Lib.hid h2
    have hmvA := HMv.out h2
    have hmvP := HMp.out h2
    have HAt := Lib.hid (fun (W : World) (hW : Below wr.heap.size wr W) => HAtom.out p' l' W (HKr.out.below hW) (by rw [HCc.out]; exact h2) hdp hm)
    have hpn := fun x hx => piece_none (alt := alt) (cs := codes cs) (st := p'.st l') (x := x) hx
    have hps := fun x hx => piece_sign (alt := alt) (cs := codes cs) (st := p'.st l') (x := x) hx
    have HPn := Lib.hid hpn
    have HPs := Lib.hid hps
    obtain ⟨xa, hxa⟩ : ∃ xa, atomR alt (codes cs) (p'.st l') = xa := ⟨_, rfl⟩
    have HXa := Lib.hid hxa
    rw [hxa] at HAt hmvA
    have HMvA := Lib.hid hmvA
    have HMvP := Lib.hid hmvP
    clear hgo h2 he hlt hdp hm htot hmvA hmvP hpn hps hxa
    go_wp2_with fail
    refine (HNow.out _ (Below.refl _ _)).mono ?_
    rintro e w3 ⟨rfl, hb3⟩
    have HB3 := Lib.hid hb3
    clear hb3
    go_wp2_with fail
    refine (HNow.out _ HB3.out).mono ?_
    rintro e w4 ⟨rfl, hb4⟩
    have HB4 := Lib.hid (bthen HB3.out hb4)
    clear hb4
    go_wp2_with fail
    refine (HNow.out _ HB4.out).mono ?_
    rintro e w5 ⟨rfl, hb5⟩
    have HB5 := Lib.hid (bthen HB4.out hb5)
    clear hb5
    go_wp2_with fail
    refine (HAt.out _ HB5.out).mono ?_
    rintro e w6 ⟨rfl, p6, l6, hK6, hst6, hA6⟩
    have HK6 := Lib.hid hK6
    have HA6 := Lib.hid ((HAr.out.then HB5.out).trans hA6 (fun _ _ h => h))
    have HSt6 := Lib.hid hst6
    have HNow6 := Lib.hid (k_now hK6)
    have hmA := HMvA.out
    rw [← hst6] at hmA
    have hm6 : muF (codes cs) (p6.st l6) ≤ 5001 := by have := hmA.mu; have := HM'.out; omega
    have HM6 := Lib.hid hm6
    have HL6 : Hid (l6.length ≤ 5001) := Lib.hid (by have := mu_l (cs := cs) (p := p6) (l := l6); omega)
    have HLt6 := Lib.hid fun (g : rnF (codes cs) (p6.st l6) ≠ -2) => now_lt' g
    obtain ⟨g6, hg6⟩ : ∃ g6, rnF (codes cs) (p6.st l6) = g6 := ⟨_, rfl⟩
    have HG6 := Lib.hid hg6
    rw [hg6] at HNow6 HLt6
    obtain ⟨a6, sa6⟩ := xa
    simp only at hst6 ⊢
    have HXs := Lib.hid hst6
    clear hK6 hst6 hA6 hmA hm6 hg6
    go_wp2_with fail
    refine HNow6.out.mono ?_
    rintro e w7 ⟨rfl, hb7⟩
    have HT7 := Lib.hid ((KTo.refl HK6.out).below hb7)
    clear hb7
    have hcs : (kindOf g6 = 3 ∧ (g6 == 42) = true) ∨ (kindOf g6 = 4 ∧ (g6 == 42) = false ∧ (g6 == 43) = true) ∨ (kindOf g6 = 5 ∧ (g6 == 42) = false ∧ (g6 == 43) = false ∧ (g6 == 63) = true) ∨ (kindOf g6 = 6 ∧ (g6 == 42) = false ∧ (g6 == 43) = false ∧ (g6 == 63) = false) := by
     unfold kindOf
     by_cases q1 : g6 = 42
     ·exact .inl ⟨if_pos q1, by simpa using q1⟩
     ·by_cases q2 : g6 = 43
      ·exact .inr (.inl ⟨by rw [if_neg q1, if_pos q2], by simpa using q1, by simpa using q2⟩)
      ·by_cases q3 : g6 = 63
       ·exact .inr (.inr (.inl ⟨by rw [if_neg q1, if_neg q2, if_pos q3], by simpa using q1, by simpa using q2, by simpa using q3⟩))
       ·exact .inr (.inr (.inr ⟨by rw [if_neg q1, if_neg q2, if_neg q3], by simpa using q1, by simpa using q2, by simpa using q3⟩))
    rcases hcs with ⟨hk, q1⟩ | ⟨hk, q1, q2⟩ | ⟨hk, q1, q2, q3⟩ | ⟨hk, q1, q2, q3⟩
    ·have hpc := HPs.out (a6, sa6) HXa.out (by show kindOf (rnF (codes cs) sa6) ≠ 6; rw [← HXs.out, HG6.out, hk]; decide)
     have hpc2 : pieceR alt (codes cs) (p'.st l') = addN ⟨3, a6, 0, [], false⟩ (stepI (p6.st l6)) := by
      rw [hpc]
      show addN ⟨kindOf (rnF (codes cs) sa6), a6, 0, [], false⟩ (stepI sa6) = _
      rw [← HXs.out, HG6.out, hk]
     have hgn : g6 ≠ -2 := fun e => by rw [e] at hk; exact absurd hk (by decide)
     obtain ⟨-, hlt6⟩ := HLt6.out hgn
     have hw6 := i_wrap (Nat.le_of_lt hlt6) HLen.out
     have m7 := HT7.out.at_.cells.2.2.2.2.1
     have n7 := free_blk (i := 7) HT7.out.at_.blk
     have HT8 := Lib.hid (HT7.out.setPl false)
     have m1 := HT8.out.at_.cells.2.1
     have n1 := free_blk (i := 1) HT8.out.at_.blk
     have HT9 := Lib.hid (HT8.out.step hlt6)
     have HAdd := Lib.hid (k_add ⟨3, a6, 0, .slice none 0 0, [], false⟩ HT9.out.at_ slc_nilK (by have := HL6.out; omega))
     have htot := HTot.out
     have hmvP := HMvP.out
     rw [hpc2] at htot hmvP
     have HTot2 := Lib.hid htot
     have HMv2 := Lib.hid hmvP
     clear hk hpc hpc2 hgn hlt6 htot hmvP
     go_wp2_with fail
     refine HAdd.out.mono ?_
     rintro e w8 ⟨rfl, v8, hK8, hA8⟩
     have HK8 := Lib.hid hK8
     have HA8 := Lib.hid ((HA6.out.trans HT9.out.wide (fun _ _ h => h)).trans hA8 (fun _ _ h => h))
     have hst8 : (({ ({ ({ p6 with pl := false } : Ps) with i := p6.i + 1 } : Ps) with lv := v8 } : Ps)).st (l6 ++ [⟨3, a6, 0, .slice none 0 0, [], false⟩]) = (addN ⟨3, a6, 0, [], false⟩ (stepI (p6.st l6))).2 := by simp [addN, Ps.st, Nc.key, stepI]
     have hn8 : (addN ⟨3, a6, 0, [], false⟩ (stepI (p6.st l6))).1 = (((l6.length : Nat)) : Int) := by simp [addN, Ps.st, stepI]
     have htot := HTot2.out
     have hmvP := HMv2.out
     rw [hn8, ← hst8] at htot
     rw [← hst8] at hmvP
     obtain ⟨p8, hp8⟩ : ∃ p8, p8 = ({ ({ ({ p6 with pl := false } : Ps) with i := p6.i + 1 } : Ps) with lv := v8 } : Ps) := ⟨_, rfl⟩
     obtain ⟨l8, hl8⟩ : ∃ l8, l8 = l6 ++ [(⟨3, a6, 0, .slice none 0 0, [], false⟩ : Nc)] := ⟨_, rfl⟩
     have HL8 : Hid (l8.length ≤ 5002) := Lib.hid (by rw [hl8, List.length_append]; have := HL6.out; simp; omega)
     have hK8 := HK8.out
     rw [← hp8, ← hl8] at htot hmvP hK8
     have HTot2 := Lib.hid htot
     have HMv2 := Lib.hid hmvP
     have HK8 := Lib.hid hK8
     have HAdd2 := Lib.hid (k_add ⟨1, n, (l6.length : Nat), .slice none 0 0, [], false⟩ hK8 slc_nilK (by have := HL8.out; omega))
     clear hK8 hA8 hst8 hn8 htot hmvP hp8 hl8
     go_wp2_with fail
     refine HAdd2.out.mono ?_
     rintro e w9 ⟨rfl, v9, hK9, hA9⟩
     have hst9 : ({ p8 with lv := v9 } : Ps).st (l8 ++ [⟨1, n, ((l6.length : Nat) : Int), .slice none 0 0, [], false⟩]) = (addN ⟨1, n, ((l6.length : Nat) : Int), [], false⟩ ((p8).st (l8))).2 := by simp [addN, Ps.st, Nc.key]
     have hn9 : (addN ⟨1, n, ((l6.length : Nat) : Int), [], false⟩ ((p8).st (l8))).1 = ((((l8).length : Nat)) : Int) := by simp [addN, Ps.st]
     have hmv9 := HMv2.out
     have hg9 := go_add (cs := codes cs) ⟨1, n, ((l6.length : Nat) : Int), [], false⟩ hmv9.go.hi
     have hm9 := mu_add (codes cs) ⟨1, n, ((l6.length : Nat) : Int), [], false⟩ ((p8).st (l8))
     rw [← hst9] at hg9 hm9
     have htot9 := HTot2.out
     rw [← hst9, hn9] at htot9
     have HTot9 := Lib.hid htot9
     have hgg := hmv9.go.trans hg9
     have hfw : (p8).e = 0 → p'.i + 1 ≤ (p8).i := fun q => by have := (hgg.fwd q).2; have e1 : (p'.st l').i = p'.i := rfl; have e2 : (({ p8 with lv := v9 } : Ps).st (l8 ++ [⟨1, n, ((l6.length : Nat) : Int), .slice none 0 0, [], false⟩])).i = (p8).i := rfl; omega
     have HFw := Lib.hid hfw
     have hdp9 : (p8).e = 0 → (p8).deep = p.deep ∧ muF (codes cs) (({ p8 with lv := v9 } : Ps).st (l8 ++ [⟨1, n, ((l6.length : Nat) : Int), .slice none 0 0, [], false⟩])) ≤ 5001 := fun q => ⟨(hgg.deep q).trans HDp.out, by have := hmv9.ok q; have := HM'.out; omega⟩
     have HDp9 := Lib.hid hdp9
     have hnn : 1 ≤ k ∧ ((p8).e = 0 → cs.length + 2 ≤ (p8).i + k) := by
      have h8 := HN.out HE'.out
      have h9 := HKr.out.hi
      exact ⟨by omega, fun g => by have := hfw g; omega⟩
     have HNn := Lib.hid hnn
     have HK9 := Lib.hid hK9
     have HA9 := Lib.hid (HA8.out.trans hA9 (fun _ _ h => h))
     clear hst9 hn9 hmv9 hg9 hm9 htot9 hgg hfw hdp9 hnn hK9 hA9
     go_wp2_with fail
     go_roundw
     case rel => exact ⟨k, _, { p8 with lv := v9 }, _, rfl, HNn.out, HTot9.out, HDp9.out, HK9.out, HA9.out⟩
     case measure => exact KM_lt HKr.out HK9.out HE'.out HFw.out
    ·have hpc := HPs.out (a6, sa6) HXa.out (by show kindOf (rnF (codes cs) sa6) ≠ 6; rw [← HXs.out, HG6.out, hk]; decide)
     have hpc2 : pieceR alt (codes cs) (p'.st l') = addN ⟨4, a6, 0, [], false⟩ (stepI (p6.st l6)) := by
      rw [hpc]
      show addN ⟨kindOf (rnF (codes cs) sa6), a6, 0, [], false⟩ (stepI sa6) = _
      rw [← HXs.out, HG6.out, hk]
     have hgn : g6 ≠ -2 := fun e => by rw [e] at hk; exact absurd hk (by decide)
     obtain ⟨-, hlt6⟩ := HLt6.out hgn
     have hw6 := i_wrap (Nat.le_of_lt hlt6) HLen.out
     have m7 := HT7.out.at_.cells.2.2.2.2.1
     have n7 := free_blk (i := 7) HT7.out.at_.blk
     have HT8 := Lib.hid (HT7.out.setPl false)
     have m1 := HT8.out.at_.cells.2.1
     have n1 := free_blk (i := 1) HT8.out.at_.blk
     have HT9 := Lib.hid (HT8.out.step hlt6)
     have HAdd := Lib.hid (k_add ⟨4, a6, 0, .slice none 0 0, [], false⟩ HT9.out.at_ slc_nilK (by have := HL6.out; omega))
     have htot := HTot.out
     have hmvP := HMvP.out
     rw [hpc2] at htot hmvP
     have HTot2 := Lib.hid htot
     have HMv2 := Lib.hid hmvP
     clear hk hpc hpc2 hgn hlt6 htot hmvP
     go_wp2_with fail
     refine HAdd.out.mono ?_
     rintro e w8 ⟨rfl, v8, hK8, hA8⟩
     have HK8 := Lib.hid hK8
     have HA8 := Lib.hid ((HA6.out.trans HT9.out.wide (fun _ _ h => h)).trans hA8 (fun _ _ h => h))
     have hst8 : (({ ({ ({ p6 with pl := false } : Ps) with i := p6.i + 1 } : Ps) with lv := v8 } : Ps)).st (l6 ++ [⟨4, a6, 0, .slice none 0 0, [], false⟩]) = (addN ⟨4, a6, 0, [], false⟩ (stepI (p6.st l6))).2 := by simp [addN, Ps.st, Nc.key, stepI]
     have hn8 : (addN ⟨4, a6, 0, [], false⟩ (stepI (p6.st l6))).1 = (((l6.length : Nat)) : Int) := by simp [addN, Ps.st, stepI]
     have htot := HTot2.out
     have hmvP := HMv2.out
     rw [hn8, ← hst8] at htot
     rw [← hst8] at hmvP
     obtain ⟨p8, hp8⟩ : ∃ p8, p8 = ({ ({ ({ p6 with pl := false } : Ps) with i := p6.i + 1 } : Ps) with lv := v8 } : Ps) := ⟨_, rfl⟩
     obtain ⟨l8, hl8⟩ : ∃ l8, l8 = l6 ++ [(⟨4, a6, 0, .slice none 0 0, [], false⟩ : Nc)] := ⟨_, rfl⟩
     have HL8 : Hid (l8.length ≤ 5002) := Lib.hid (by rw [hl8, List.length_append]; have := HL6.out; simp; omega)
     have hK8 := HK8.out
     rw [← hp8, ← hl8] at htot hmvP hK8
     have HTot2 := Lib.hid htot
     have HMv2 := Lib.hid hmvP
     have HK8 := Lib.hid hK8
     have HAdd2 := Lib.hid (k_add ⟨1, n, (l6.length : Nat), .slice none 0 0, [], false⟩ hK8 slc_nilK (by have := HL8.out; omega))
     clear hK8 hA8 hst8 hn8 htot hmvP hp8 hl8
     go_wp2_with fail
     refine HAdd2.out.mono ?_
     rintro e w9 ⟨rfl, v9, hK9, hA9⟩
     have hst9 : ({ p8 with lv := v9 } : Ps).st (l8 ++ [⟨1, n, ((l6.length : Nat) : Int), .slice none 0 0, [], false⟩]) = (addN ⟨1, n, ((l6.length : Nat) : Int), [], false⟩ ((p8).st (l8))).2 := by simp [addN, Ps.st, Nc.key]
     have hn9 : (addN ⟨1, n, ((l6.length : Nat) : Int), [], false⟩ ((p8).st (l8))).1 = ((((l8).length : Nat)) : Int) := by simp [addN, Ps.st]
     have hmv9 := HMv2.out
     have hg9 := go_add (cs := codes cs) ⟨1, n, ((l6.length : Nat) : Int), [], false⟩ hmv9.go.hi
     have hm9 := mu_add (codes cs) ⟨1, n, ((l6.length : Nat) : Int), [], false⟩ ((p8).st (l8))
     rw [← hst9] at hg9 hm9
     have htot9 := HTot2.out
     rw [← hst9, hn9] at htot9
     have HTot9 := Lib.hid htot9
     have hgg := hmv9.go.trans hg9
     have hfw : (p8).e = 0 → p'.i + 1 ≤ (p8).i := fun q => by have := (hgg.fwd q).2; have e1 : (p'.st l').i = p'.i := rfl; have e2 : (({ p8 with lv := v9 } : Ps).st (l8 ++ [⟨1, n, ((l6.length : Nat) : Int), .slice none 0 0, [], false⟩])).i = (p8).i := rfl; omega
     have HFw := Lib.hid hfw
     have hdp9 : (p8).e = 0 → (p8).deep = p.deep ∧ muF (codes cs) (({ p8 with lv := v9 } : Ps).st (l8 ++ [⟨1, n, ((l6.length : Nat) : Int), .slice none 0 0, [], false⟩])) ≤ 5001 := fun q => ⟨(hgg.deep q).trans HDp.out, by have := hmv9.ok q; have := HM'.out; omega⟩
     have HDp9 := Lib.hid hdp9
     have hnn : 1 ≤ k ∧ ((p8).e = 0 → cs.length + 2 ≤ (p8).i + k) := by
      have h8 := HN.out HE'.out
      have h9 := HKr.out.hi
      exact ⟨by omega, fun g => by have := hfw g; omega⟩
     have HNn := Lib.hid hnn
     have HK9 := Lib.hid hK9
     have HA9 := Lib.hid (HA8.out.trans hA9 (fun _ _ h => h))
     clear hst9 hn9 hmv9 hg9 hm9 htot9 hgg hfw hdp9 hnn hK9 hA9
     go_wp2_with fail
     go_roundw
     case rel => exact ⟨k, _, { p8 with lv := v9 }, _, rfl, HNn.out, HTot9.out, HDp9.out, HK9.out, HA9.out⟩
     case measure => exact KM_lt HKr.out HK9.out HE'.out HFw.out
    ·have hpc := HPs.out (a6, sa6) HXa.out (by show kindOf (rnF (codes cs) sa6) ≠ 6; rw [← HXs.out, HG6.out, hk]; decide)
     have hpc2 : pieceR alt (codes cs) (p'.st l') = addN ⟨5, a6, 0, [], false⟩ (stepI (p6.st l6)) := by
      rw [hpc]
      show addN ⟨kindOf (rnF (codes cs) sa6), a6, 0, [], false⟩ (stepI sa6) = _
      rw [← HXs.out, HG6.out, hk]
     have hgn : g6 ≠ -2 := fun e => by rw [e] at hk; exact absurd hk (by decide)
     obtain ⟨-, hlt6⟩ := HLt6.out hgn
     have hw6 := i_wrap (Nat.le_of_lt hlt6) HLen.out
     have m7 := HT7.out.at_.cells.2.2.2.2.1
     have n7 := free_blk (i := 7) HT7.out.at_.blk
     have HT8 := Lib.hid (HT7.out.setPl false)
     have m1 := HT8.out.at_.cells.2.1
     have n1 := free_blk (i := 1) HT8.out.at_.blk
     have HT9 := Lib.hid (HT8.out.step hlt6)
     have HAdd := Lib.hid (k_add ⟨5, a6, 0, .slice none 0 0, [], false⟩ HT9.out.at_ slc_nilK (by have := HL6.out; omega))
     have htot := HTot.out
     have hmvP := HMvP.out
     rw [hpc2] at htot hmvP
     have HTot2 := Lib.hid htot
     have HMv2 := Lib.hid hmvP
     clear hk hpc hpc2 hgn hlt6 htot hmvP
     go_wp2_with fail
     refine HAdd.out.mono ?_
     rintro e w8 ⟨rfl, v8, hK8, hA8⟩
     have HK8 := Lib.hid hK8
     have HA8 := Lib.hid ((HA6.out.trans HT9.out.wide (fun _ _ h => h)).trans hA8 (fun _ _ h => h))
     have hst8 : (({ ({ ({ p6 with pl := false } : Ps) with i := p6.i + 1 } : Ps) with lv := v8 } : Ps)).st (l6 ++ [⟨5, a6, 0, .slice none 0 0, [], false⟩]) = (addN ⟨5, a6, 0, [], false⟩ (stepI (p6.st l6))).2 := by simp [addN, Ps.st, Nc.key, stepI]
     have hn8 : (addN ⟨5, a6, 0, [], false⟩ (stepI (p6.st l6))).1 = (((l6.length : Nat)) : Int) := by simp [addN, Ps.st, stepI]
     have htot := HTot2.out
     have hmvP := HMv2.out
     rw [hn8, ← hst8] at htot
     rw [← hst8] at hmvP
     obtain ⟨p8, hp8⟩ : ∃ p8, p8 = ({ ({ ({ p6 with pl := false } : Ps) with i := p6.i + 1 } : Ps) with lv := v8 } : Ps) := ⟨_, rfl⟩
     obtain ⟨l8, hl8⟩ : ∃ l8, l8 = l6 ++ [(⟨5, a6, 0, .slice none 0 0, [], false⟩ : Nc)] := ⟨_, rfl⟩
     have HL8 : Hid (l8.length ≤ 5002) := Lib.hid (by rw [hl8, List.length_append]; have := HL6.out; simp; omega)
     have hK8 := HK8.out
     rw [← hp8, ← hl8] at htot hmvP hK8
     have HTot2 := Lib.hid htot
     have HMv2 := Lib.hid hmvP
     have HK8 := Lib.hid hK8
     have HAdd2 := Lib.hid (k_add ⟨1, n, (l6.length : Nat), .slice none 0 0, [], false⟩ hK8 slc_nilK (by have := HL8.out; omega))
     clear hK8 hA8 hst8 hn8 htot hmvP hp8 hl8
     go_wp2_with fail
     refine HAdd2.out.mono ?_
     rintro e w9 ⟨rfl, v9, hK9, hA9⟩
     have hst9 : ({ p8 with lv := v9 } : Ps).st (l8 ++ [⟨1, n, ((l6.length : Nat) : Int), .slice none 0 0, [], false⟩]) = (addN ⟨1, n, ((l6.length : Nat) : Int), [], false⟩ ((p8).st (l8))).2 := by simp [addN, Ps.st, Nc.key]
     have hn9 : (addN ⟨1, n, ((l6.length : Nat) : Int), [], false⟩ ((p8).st (l8))).1 = ((((l8).length : Nat)) : Int) := by simp [addN, Ps.st]
     have hmv9 := HMv2.out
     have hg9 := go_add (cs := codes cs) ⟨1, n, ((l6.length : Nat) : Int), [], false⟩ hmv9.go.hi
     have hm9 := mu_add (codes cs) ⟨1, n, ((l6.length : Nat) : Int), [], false⟩ ((p8).st (l8))
     rw [← hst9] at hg9 hm9
     have htot9 := HTot2.out
     rw [← hst9, hn9] at htot9
     have HTot9 := Lib.hid htot9
     have hgg := hmv9.go.trans hg9
     have hfw : (p8).e = 0 → p'.i + 1 ≤ (p8).i := fun q => by have := (hgg.fwd q).2; have e1 : (p'.st l').i = p'.i := rfl; have e2 : (({ p8 with lv := v9 } : Ps).st (l8 ++ [⟨1, n, ((l6.length : Nat) : Int), .slice none 0 0, [], false⟩])).i = (p8).i := rfl; omega
     have HFw := Lib.hid hfw
     have hdp9 : (p8).e = 0 → (p8).deep = p.deep ∧ muF (codes cs) (({ p8 with lv := v9 } : Ps).st (l8 ++ [⟨1, n, ((l6.length : Nat) : Int), .slice none 0 0, [], false⟩])) ≤ 5001 := fun q => ⟨(hgg.deep q).trans HDp.out, by have := hmv9.ok q; have := HM'.out; omega⟩
     have HDp9 := Lib.hid hdp9
     have hnn : 1 ≤ k ∧ ((p8).e = 0 → cs.length + 2 ≤ (p8).i + k) := by
      have h8 := HN.out HE'.out
      have h9 := HKr.out.hi
      exact ⟨by omega, fun g => by have := hfw g; omega⟩
     have HNn := Lib.hid hnn
     have HK9 := Lib.hid hK9
     have HA9 := Lib.hid (HA8.out.trans hA9 (fun _ _ h => h))
     clear hst9 hn9 hmv9 hg9 hm9 htot9 hgg hfw hdp9 hnn hK9 hA9
     go_wp2_with fail
     go_roundw
     case rel => exact ⟨k, _, { p8 with lv := v9 }, _, rfl, HNn.out, HTot9.out, HDp9.out, HK9.out, HA9.out⟩
     case measure => exact KM_lt HKr.out HK9.out HE'.out HFw.out
    ·have hpc := HPn.out (a6, sa6) HXa.out (by show kindOf (rnF (codes cs) sa6) = 6; rw [← HXs.out, HG6.out]; exact hk)
     have htot := HTot.out
     have hmvP := HMvP.out
     rw [hpc] at htot hmvP
     have htot2 : branchL alt (codes cs) k (addN ⟨1, n, a6, [], false⟩ (p6.st l6)).1 (addN ⟨1, n, a6, [], false⟩ (p6.st l6)).2 = tot := by rw [HXs.out]; exact htot
     have hmv2 : Mv (codes cs) 1 0 (-3) (p'.st l') (p6.st l6) := by rw [HXs.out]; exact hmvP
     have HTot2 := Lib.hid htot2
     have HMv2 := Lib.hid hmv2
     have HAdd := Lib.hid (k_add ⟨1, n, a6, .slice none 0 0, [], false⟩ HT7.out.at_ slc_nilK (by have := HL6.out; omega))
     clear hk hpc htot hmvP htot2 hmv2
     go_wp2_with fail
     refine HAdd.out.mono ?_
     rintro e w9 ⟨rfl, v9, hK9, hA9⟩
     have hst9 : ({ p6 with lv := v9 } : Ps).st (l6 ++ [⟨1, n, a6, .slice none 0 0, [], false⟩]) = (addN ⟨1, n, a6, [], false⟩ ((p6).st (l6))).2 := by simp [addN, Ps.st, Nc.key]
     have hn9 : (addN ⟨1, n, a6, [], false⟩ ((p6).st (l6))).1 = ((((l6).length : Nat)) : Int) := by simp [addN, Ps.st]
     have hmv9 := HMv2.out
     have hg9 := go_add (cs := codes cs) ⟨1, n, a6, [], false⟩ hmv9.go.hi
     have hm9 := mu_add (codes cs) ⟨1, n, a6, [], false⟩ ((p6).st (l6))
     rw [← hst9] at hg9 hm9
     have htot9 := HTot2.out
     rw [← hst9, hn9] at htot9
     have HTot9 := Lib.hid htot9
     have hgg := hmv9.go.trans hg9
     have hfw : (p6).e = 0 → p'.i + 1 ≤ (p6).i := fun q => by have := (hgg.fwd q).2; have e1 : (p'.st l').i = p'.i := rfl; have e2 : (({ p6 with lv := v9 } : Ps).st (l6 ++ [⟨1, n, a6, .slice none 0 0, [], false⟩])).i = (p6).i := rfl; omega
     have HFw := Lib.hid hfw
     have hdp9 : (p6).e = 0 → (p6).deep = p.deep ∧ muF (codes cs) (({ p6 with lv := v9 } : Ps).st (l6 ++ [⟨1, n, a6, .slice none 0 0, [], false⟩])) ≤ 5001 := fun q => ⟨(hgg.deep q).trans HDp.out, by have := hmv9.ok q; have := HM'.out; omega⟩
     have HDp9 := Lib.hid hdp9
     have hnn : 1 ≤ k ∧ ((p6).e = 0 → cs.length + 2 ≤ (p6).i + k) := by
      have h8 := HN.out HE'.out
      have h9 := HKr.out.hi
      exact ⟨by omega, fun g => by have := hfw g; omega⟩
     have HNn := Lib.hid hnn
     have HK9 := Lib.hid hK9
     have HA9 := Lib.hid ((HA6.out.trans HT7.out.wide (fun _ _ h => h)).trans hA9 (fun _ _ h => h))
     clear hst9 hn9 hmv9 hg9 hm9 htot9 hgg hfw hdp9 hnn hK9 hA9
     go_wp2_with fail
     go_roundw
     case rel => exact ⟨k, _, { p6 with lv := v9 }, _, rfl, HNn.out, HTot9.out, HDp9.out, HK9.out, HA9.out⟩
     case measure => exact KM_lt HKr.out HK9.out HE'.out HFw.out
   ·have hgo' : goesOn c = false := by simpa using hgo
    have hcs : (c != -2) = false ∨ ((c != -2) = true ∧ (c != 124) = false) ∨ ((c != -2) = true ∧ (c != 124) = true ∧ (c != 41) = false) := by
     unfold goesOn at hgo'
     by_cases g1 : c = -2
     ·exact .inl (by simp [g1])
     ·by_cases g2 : c = 124
      ·exact .inr (.inl ⟨by simp [g1], by simp [g2]⟩)
      ·by_cases g3 : c = 41
       ·exact .inr (.inr ⟨by simp [g1], by simp [g2], by simp [g3]⟩)
       ·simp [g1, g2, g3] at hgo'
    have htot := HTot.out
    rw [HStop.out hgo'] at htot
    have HTot := Lib.hid htot
    clear hgo hgo' htot
    rcases hcs with b1 | ⟨b1, b2⟩ | ⟨b1, b2, b3⟩
    ·go_wp2_with fail
     refine (HNow.out _ (Below.refl _ _)).mono ?_
     rintro e w3 ⟨rfl, hb3⟩
     have HB3 := Lib.hid hb3
     clear hb3
     go_wp2_with fail
     go_ret
     rw [← HTot.out]
     exact ⟨rfl, _, _, HKr.out.below HB3.out, rfl, HAr.out.then HB3.out⟩
    ·go_wp2_with fail
     refine (HNow.out _ (Below.refl _ _)).mono ?_
     rintro e w3 ⟨rfl, hb3⟩
     have HB3 := Lib.hid hb3
     clear hb3
     go_wp2_with fail
     refine (HNow.out _ HB3.out).mono ?_
     rintro e w4 ⟨rfl, hb4⟩
     have HB4 := Lib.hid (bthen HB3.out hb4)
     clear hb4
     go_wp2_with fail
     go_ret
     rw [← HTot.out]
     exact ⟨rfl, _, _, HKr.out.below HB4.out, rfl, HAr.out.then HB4.out⟩
    ·go_wp2_with fail
     refine (HNow.out _ (Below.refl _ _)).mono ?_
     rintro e w3 ⟨rfl, hb3⟩
     have HB3 := Lib.hid hb3
     clear hb3
     go_wp2_with fail
     refine (HNow.out _ HB3.out).mono ?_
     rintro e w4 ⟨rfl, hb4⟩
     have HB4 := Lib.hid (bthen HB3.out hb4)
     clear hb4
     go_wp2_with fail
     refine (HNow.out _ HB4.out).mono ?_
     rintro e w5 ⟨rfl, hb5⟩
     have HB5 := Lib.hid (bthen HB4.out hb5)
     clear hb5
     go_wp2_with fail
     go_ret
     rw [← HTot.out]
     exact ⟨rfl, _, _, HKr.out.below HB5.out, rfl, HAr.out.then HB5.out⟩
end Go.Proofs.YtlhmdgaohonpbaaGreatDoor

namespace Go.Proofs.YtlhmdgaohonpbaaGreatDoor
open Go.RowKit Go.Proofs.YtlhmdgaohonpbaaGreatDoor.MapRaw Go.ChangeMaps
theorem alt_go {alt : St → Int × St} {cs : List Int} {k : Nat} {n : Int} {st : St} (h : rnF cs st = 124) : altL alt cs (k + 1) n st = altL alt cs k (addN ⟨2, n, (branchR alt cs (stepI st)).1, [], false⟩ (branchR alt cs (stepI st)).2).1 (addN ⟨2, n, (branchR alt cs (stepI st)).1, [], false⟩ (branchR alt cs (stepI st)).2).2 := by
 show (if rnF cs st = 124 then _ else _) = _
 rw [if_pos h]
theorem alt_stop {alt : St → Int × St} {cs : List Int} {k : Nat} {n : Int} {st : St} (h : ¬ rnF cs st = 124) : altL alt cs (k + 1) n st = (n, st) := by
 show (if rnF cs st = 124 then _ else _) = _
 rw [if_neg h]
set_option maxRecDepth 100000 in
set_option maxHeartbeats 4000000 in
theorem k_alt {pb : Nat} {cv : Value} {cs : List Ch} {p : Ps} {l : List Nc} {w : World} {alt : St → Int × St} {dl : Int} (hC : AltC pb cv cs alt dl) (hO : AltOk alt (codes cs)) (h : KAt pb cv cs p l w) (he : p.e = 0) (hd0 : 0 ≤ p.deep) (hd1 : dl ≤ p.deep + 1) (hd2 : p.deep ≤ 20) (hmu : muF (codes cs) (p.st l) ≤ 5000) :
  Calls Tryz.prog 106 #[.pointer (some ⟨pb, 0, none⟩)] w (KPost pb cv cs w (altS alt (codes cs) (p.st l))) := by
 have HBr := Lib.hid (fun (p' : Ps) (l' : List Nc) (W : World) (h' : KAt pb cv cs p' l' W) (hr : p'.e = 0) (hd : p'.deep = p.deep) (hm : muF (codes cs) (p'.st l') ≤ 5000) => k_branch (alt := alt) (dl := dl) hC hO h' hr (by omega) (by omega) (by omega) hm)
 have HBr0 := Lib.hid (HBr.out p l w h he rfl hmu)
 have hcl : (codes cs).length = cs.length := by simp [codes]
 have hmv := mv_branch hO (st := p.st l) (by rw [hcl]; exact h.hi)
 obtain ⟨tot, htt⟩ : ∃ tot, altS alt (codes cs) (p.st l) = tot := ⟨_, rfl⟩
 have htt2 : altL alt (codes cs) (cs.length + 2) (branchR alt (codes cs) (p.st l)).1 (branchR alt (codes cs) (p.st l)).2 = tot := by rw [← htt, ← hcl]; rfl
 rw [htt]
 have HTt := Lib.hid htt2
 have HMv := Lib.hid hmv
 have HMu := Lib.hid hmu
 have HE := Lib.hid he
 have HO := Lib.hid hO
 have HLen := Lib.hid h.len
 have HCl := Lib.hid hcl
 clear h htt htt2 hcl he hC hO hmu hd0 hd1 hd2 hmv
 go_enter Tryz.func106, Tryz.ntmps106
 go_wp2_with fail
 refine HBr0.out.mono ?_
 rintro e w1 ⟨rfl, p1, l1, hK1, hst1, hA1⟩
 have hmv1 := HMv.out
 have htt := HTt.out
 rw [← hst1] at hmv1 htt
 have hm1 : p1.e = 0 → p1.deep = p.deep ∧ muF (codes cs) (p1.st l1) ≤ 5001 := fun q => ⟨hmv1.go.deep q, by have := hmv1.ok q; have := HMu.out; omega⟩
 have HM1 := Lib.hid hm1
 have HTt := Lib.hid htt
 have HK1 := Lib.hid hK1
 have HA1 := Lib.hid hA1
 generalize (branchR alt (codes cs) (p.st l)).1 = n1 at *
 clear hK1 hst1 hA1 hmv1 htt hm1
 go_wp2_with fail
 go_loopw [3] (fun v wr => ∃ (k : Nat) (n : Int) (p' : Ps) (l' : List Nc), v = .int .i64 n ∧ (1 ≤ k ∧ (p'.e = 0 → cs.length + 2 ≤ p'.i + k)) ∧ altL alt (codes cs) k n (p'.st l') = tot ∧ (p'.e = 0 → p'.deep = p.deep ∧ muF (codes cs) (p'.st l') ≤ 5001) ∧ KAt pb cv cs p' l' wr ∧ Apart (fun k => pb ≤ k) w wr) (fun _ wr => KM pb wr)
 case atStart => exact ⟨cs.length + 2, _, p1, l1, rfl, ⟨by omega, fun _ => by omega⟩, HTt.out, HM1.out, HK1.out, HA1.out⟩
 case round =>
  obtain ⟨k, n, p', l', rfl, ⟨hn1, hn2⟩, htot, hmu, hK, hA⟩ := hrel
  have HKr := Lib.hid hK
  have HAr := Lib.hid hA
  have HN := Lib.hid hn2
  have HMu := Lib.hid hmu
  have HNow := Lib.hid (k_now hK)
  cases k with
  | zero => omega
  | succ k =>
   have HTot := Lib.hid htot
   obtain ⟨c, hc⟩ : ∃ c, rnF (codes cs) (p'.st l') = c := ⟨_, rfl⟩
   have HCc := Lib.hid hc
   rw [hc] at HNow
   clear htot hmu hK hA hn1 hn2 hc
   by_cases h124 : c = 124
   ·have e124 : (c == 124) = true := by simpa using h124
    have hnow := HCc.out
    rw [h124] at hnow
    obtain ⟨he, hlt⟩ := now_lt' (p := p') (cs := cs) (l := l') (by rw [hnow]; decide)
    have htot := HTot.out
    rw [alt_go hnow] at htot
    have hg0 := go_step (cs := codes cs) (st := p'.st l') (by rw [hnow]; decide)
    have hm0 := mu_fwd (cs := codes cs) (k := 1) (same_step (p'.st l')) (Nat.le_refl _) hg0.hi
    have hmv := mv_branch HO.out hg0.hi
    obtain ⟨hdp, hm⟩ := HMu.out he
    have HE' := Lib.hid he
    have HLt := Lib.hid hlt
    have HG0 := Lib.hid hg0
    have HM0 : Hid (muF (codes cs) (stepI (p'.st l')) ≤ 4997) := Lib.hid (by omega)
    have HMv := Lib.hid hmv
    have HDp := Lib.hid hdp
    have hw1 := i_wrap (Nat.le_of_lt hlt) HLen.out
    obtain ⟨xb, hxb⟩ : ∃ xb, branchR alt (codes cs) (stepI (p'.st l')) = xb := ⟨_, rfl⟩
    have HXb := Lib.hid hxb
    rw [hxb] at htot
    have HTot := Lib.hid htot
    clear h124 hnow he hlt htot hg0 hm0 hmv hdp hm hxb
    go_wp2_with fail
    refine HNow.out.mono ?_
    rintro e w3 ⟨rfl, hb3⟩
    have HT3 := Lib.hid ((KTo.refl HKr.out).below hb3)
    have m1 := HT3.out.at_.cells.2.1
    have n1 := free_blk (i := 1) HT3.out.at_.blk
    have HT4 := Lib.hid (HT3.out.step HLt.out)
    have hst4 := HT4.out.st
    have hb4 := HBr.out _ l' _ HT4.out.at_ HE'.out HDp.out (by rw [hst4]; have := HM0.out; omega)
    rw [hst4, HXb.out] at hb4
    have HB4 := Lib.hid hb4
    clear hb3 hst4 hb4
    obtain ⟨b5, sb5⟩ := xb
    go_wp2_with fail
    refine HB4.out.mono ?_
    rintro e w5 ⟨rfl, p5, l5, hK5, hst5, hA5⟩
    have hxs : p5.st l5 = sb5 := hst5
    have hmv := HMv.out
    rw [HXb.out] at hmv
    have hmv5 : Mv (codes cs) 0 2 1 (stepI (p'.st l')) (p5.st l5) := by rw [hxs]; exact hmv
    have htot : altL alt (codes cs) k (addN ⟨2, n, b5, [], false⟩ (p5.st l5)).1 (addN ⟨2, n, b5, [], false⟩ (p5.st l5)).2 = tot := by rw [hxs]; exact HTot.out
    have hl5 : l5.length ≤ 5000 := by have := mu_l (cs := cs) (p := p5) (l := l5); have := hmv5.mu; have := HM0.out; omega
    have HAdd := Lib.hid (k_add ⟨2, n, b5, .slice none 0 0, [], false⟩ hK5 slc_nilK (by omega))
    have HMv5 := Lib.hid hmv5
    have HTot := Lib.hid htot
    have HA5 := Lib.hid ((HAr.out.trans HT4.out.wide (fun _ _ h => h)).trans hA5 (fun _ _ h => h))
    clear hxs hmv hmv5 htot hl5 hK5 hst5 hA5
    go_wp2_with fail
    refine HAdd.out.mono ?_
    rintro e w9 ⟨rfl, v9, hK9, hA9⟩
    have hst9 : ({ p5 with lv := v9 } : Ps).st (l5 ++ [⟨2, n, b5, .slice none 0 0, [], false⟩]) = (addN ⟨2, n, b5, [], false⟩ (p5.st l5)).2 := by simp [addN, Ps.st, Nc.key]
    have hn9 : (addN ⟨2, n, b5, [], false⟩ (p5.st l5)).1 = (((l5.length : Nat)) : Int) := by simp [addN, Ps.st]
    have hmv9 := HMv5.out
    have hg9 := go_add (cs := codes cs) ⟨2, n, b5, [], false⟩ hmv9.go.hi
    have hm9 := mu_add (codes cs) ⟨2, n, b5, [], false⟩ (p5.st l5)
    rw [← hst9] at hg9 hm9
    have htot9 := HTot.out
    rw [← hst9, hn9] at htot9
    have HTot9 := Lib.hid htot9
    have hgg := (HG0.out.trans hmv9.go).trans hg9
    have hfw : p5.e = 0 → p'.i + 1 ≤ p5.i := fun q => by have := (hgg.fwd q).2; have e1 : (p'.st l').i = p'.i := rfl; have e2 : (({ p5 with lv := v9 } : Ps).st (l5 ++ [⟨2, n, b5, .slice none 0 0, [], false⟩])).i = p5.i := rfl; omega
    have HFw := Lib.hid hfw
    have hdp9 : p5.e = 0 → p5.deep = p.deep ∧ muF (codes cs) (({ p5 with lv := v9 } : Ps).st (l5 ++ [⟨2, n, b5, .slice none 0 0, [], false⟩])) ≤ 5001 := fun q => ⟨(hgg.deep q).trans HDp.out, by have := hmv9.ok q; have := HM0.out; omega⟩
    have HDp9 := Lib.hid hdp9
    have hnn : 1 ≤ k ∧ (p5.e = 0 → cs.length + 2 ≤ p5.i + k) := by
     have h8 := HN.out HE'.out
     have h9 := HKr.out.hi
     exact ⟨by omega, fun g => by have := hfw g; omega⟩
    have HNn := Lib.hid hnn
    have HK9 := Lib.hid hK9
    have HA9 := Lib.hid (HA5.out.trans hA9 (fun _ _ h => h))
    clear hst9 hn9 hmv9 hg9 hm9 htot9 hgg hfw hdp9 hnn hK9 hA9
    go_wp2_with fail
    go_roundw
    case rel => exact ⟨k, _, { p5 with lv := v9 }, _, rfl, HNn.out, HTot9.out, HDp9.out, HK9.out, HA9.out⟩
    case measure => exact KM_lt HKr.out HK9.out HE'.out HFw.out
   ·have e124 : (c == 124) = false := by simpa using h124
    have htot := HTot.out
    rw [alt_stop (by rw [HCc.out]; exact h124)] at htot
    have HTot := Lib.hid htot
    clear h124 htot
    go_wp2_with fail
    refine HNow.out.mono ?_
    rintro e w3 ⟨rfl, hb3⟩
    have HB3 := Lib.hid hb3
    clear hb3
    go_wp2_with fail
    go_ret
    rw [← HTot.out]
    exact ⟨rfl, _, _, HKr.out.below HB3.out, rfl, HAr.out.then HB3.out⟩
theorem k_pat {pb : Nat} {cv : Value} {cs : List Ch} : ∀ d : Nat, d ≤ 21 → AltC pb cv cs (altR (codes cs) d) (21 - d)
 | 0, _ => fun p l w h he h1 h2 _ => by omega
 | d + 1, hd => fun p l w h he h1 h2 hm => k_alt (k_pat d (by omega)) (mv_alt d) h he (by omega) (by omega) h2 hm
end Go.Proofs.YtlhmdgaohonpbaaGreatDoor

namespace Go.Proofs.YtlhmdgaohonpbaaGreatDoor
open Go.RowKit Go.Proofs.YtlhmdgaohonpbaaGreatDoor.MapRaw Go.ChangeMaps
structure XAt (pb : Nat) (lv : Value) (top : Int) (l : List Nc) (w : World) : Prop where
 lc : w.cell? ⟨pb, 3, none⟩ = some lv
 tc : w.cell? ⟨pb, 4, none⟩ = some (.int .i64 top)
 lt : pb < w.heap.size
 row : Slc 5 Nc.enc w (fun _ => True) lv l
 sets : ∀ x ∈ l, Slc 2 Sp.enc w (fun _ => True) x.sv x.set
theorem XAt.below {pb : Nat} {lv : Value} {top : Int} {l : List Nc} {w w' : World} (h : XAt pb lv top l w) (hb : Below w.heap.size w w') : XAt pb lv top l w' :=
 ⟨later hb h.lc, later hb h.tc, Nat.lt_of_lt_of_le h.lt hb.size, h.row.move hb.size (fun k hk _ => hb.block k hk), fun x hx => (h.sets x hx).move hb.size (fun k hk _ => hb.block k hk)⟩
theorem nc_len (x : Nc) : x.enc.length = 5 := rfl
theorem KAt.setTop {pb : Nat} {cv : Value} {cs : List Ch} {p : Ps} {l : List Nc} {w : World} (h : KAt pb cv cs p l w) (n : Int) : KAt pb cv cs { p with top := n } l (w.setCell ⟨pb, 4, none⟩ (.int .i64 n)) :=
 h.turn ((Apart.refl (fun k => k = pb) _).setC ⟨pb, 4, none⟩ (.inl rfl) _) (by rw [setCell_blk (i := 4) _ h.blk]; rfl) h.hi rfl
theorem KAt.xat {pb : Nat} {cv : Value} {cs : List Ch} {p : Ps} {l : List Nc} {w : World} (h : KAt pb cv cs p l w) : XAt pb p.lv p.top l w := by
 have c4 := blk_cell h.blk 4
 simp [Ps.cells] at c4
 exact ⟨h.cells.2.2.1, c4, h.lt, (own_slc (enc := Nc.enc) nc_len rfl h.row).mono (fun _ _ _ => trivial), fun x hx => (h.sets x hx).mono (fun _ _ _ => trivial)⟩
def parseE (s : ByteArray) : Int := if 256 < s.size then 3 else (docR (codes (allChs s))).2.e
def ParseKPost (s : ByteArray) (w : World) (e : Ending) (w' : World) : Prop := ∃ (ptr : Value) (bad : Int), e = .returned (.tuple #[ptr, .int .i64 bad, .int .i64 (parseE s)]) ∧ (parseE s = 0 → ∃ pb lv l, ptr = .pointer (some ⟨pb, 3, none⟩) ∧ XAt pb lv (docR (codes (allChs s))).1 l w' ∧ l.map Nc.key = (docR (codes (allChs s))).2.L) ∧ Below w.heap.size w w'
theorem ap_below {w w' W : World} (h : Below w.heap.size w W) (hA : Apart (fun k => w.heap.size ≤ k) W w') : Below w.heap.size w w' :=
 ⟨hA.os.trans h.os, hA.tape.trans h.tape, hA.output.trans h.output, Nat.le_trans h.size hA.size, fun k hk => (hA.block k (Nat.lt_of_lt_of_le hk h.size) (by omega)).trans (h.block k hk)⟩
theorem tup_pp {a : Value} {b c d : Int} (h : c = d) : Ending.returned (.tuple #[a, .int .i64 b, .int .i64 c]) = Ending.returned (.tuple #[a, .int .i64 b, .int .i64 d]) := by rw [h]
set_option maxRecDepth 100000 in
set_option maxHeartbeats 4000000 in
theorem k_parse (s : ByteArray) (w : World) : Calls Tryz.prog 83 #[.string s] w (ParseKPost s w) := by
 unfold ParseKPost
 by_cases hs : 256 < s.size
 ·have hd : decide ((s.size : Int) > 256) = true := decide_eq_true (by omega)
  have hd2 : decide ((256 : Int) < (s.size : Int)) = true := decide_eq_true (by omega)
  have hE : parseE s = 3 := by unfold parseE; rw [if_pos hs]
  have HE := Lib.hid hE
  clear hE hs
  go_enter Tryz.func83, Tryz.ntmps83
  go_wp2_with fail
  go_ret3
  exact ⟨_, _, tup_pp HE.out.symm, ⟨fun e => (by rw [HE.out] at e; cases e), Below.refl _ _⟩⟩
 ·have hd : decide ((s.size : Int) > 256) = false := decide_eq_false (by omega)
  have hd2 : decide ((256 : Int) < (s.size : Int)) = false := decide_eq_false (by omega)
  have hE : parseE s = (docR (codes (allChs s))).2.e := by unfold parseE; rw [if_neg hs]
  have HE := Lib.hid hE
  have HCall := Lib.hid (k_chars s w (by omega))
  have HLn : Hid ((allChs s).length ≤ 256) := Lib.hid (by have := chs_len s s.size 0; unfold allChs; omega)
  clear hE hs
  go_enter Tryz.func83, Tryz.ntmps83
  go_wp2_with fail
  refine HCall.out.mono ?_
  rintro e wC ⟨vc, rfl, hSlc, hBC⟩
  clear HCall
  generalize hcs : allChs s = cs at *
  have HCs := Lib.hid hcs
  clear hcs
  obtain ⟨Ac, cc, hvc, -⟩ := id hSlc
  subst hvc
  generalize hln : cs.length = ln at *
  have HLe := Lib.hid hln
  obtain ⟨w0, hw0⟩ : ∃ w0, w0 = wC.alloc (.cells #[.slice Ac ln cc, .int .i64 0, .int .i64 s.size, .slice none 0 0, .int .i64 0, .string s, .int .i64 0, .bool true, .int .i64 0, .int .i64 0, .int .i64 0] 155) := ⟨_, rfl⟩
  have hB0 : Below wC.heap.size wC w0 := by rw [hw0]; exact balloc (Below.refl _ _) _
  have hblk : w0.heap[wC.heap.size]? = some (.cells (Ps.cells ⟨0, s.size, .slice none 0 0, 0, s, 0, true, 0, 0, 0⟩ (.slice Ac ln cc)) 155 (0, 0)) := by rw [hw0]; exact blk_new _ _
  have hsz0 : w0.heap.size = wC.heap.size + 1 := by rw [hw0]; exact Array.size_push _
  have hK0 : KAt wC.heap.size (.slice Ac ln cc) cs ⟨0, s.size, .slice none 0 0, 0, s, 0, true, 0, 0, 0⟩ [] w0 :=
   ⟨hblk, hSlc.to (by rw [hsz0]; omega) (fun k hk _ => hB0.block k hk) (fun k hk _ => hk), Nat.zero_le _, by rw [hln]; exact HLn.out, ⟨rfl, .inl ⟨rfl, rfl⟩⟩, fun x hx => by cases hx⟩
  have hBW : Below w.heap.size w w0 := bthen hBC hB0
  have HPat := Lib.hid (k_pat (pb := wC.heap.size) (cv := .slice Ac ln cc) (cs := cs) 21 (by decide) _ [] _ hK0 rfl (by show (21 : Int) - ((21 : Nat) : Int) ≤ 0; omega) (by show (0 : Int) ≤ 20; omega) (by
   have h1 : muF (codes cs) (Ps.st ⟨0, s.size, .slice none 0 0, 0, s, 0, true, 0, 0, 0⟩ []) = 4 * cs.length := by simp [muF, Ps.st, codes]
   have h2 := HLn.out
   omega))
  have HW := Lib.hid hBW
  have hpC := hBC.size
  have HPc := Lib.hid hpC
  rw [hw0] at HPat HW
  clear hblk hK0 hBW hpC hB0 hsz0 hw0 w0 hSlc hBC hln
  go_wp2_with fail
  refine HPat.out.mono ?_
  rintro e w1 ⟨rfl, p1, l1, hK1, hst1, hA1⟩
  have hD : docR (codes cs) = ((altR (codes cs) 21 (Ps.st ⟨0, s.size, .slice none 0 0, 0, s, 0, true, 0, 0, 0⟩ [])).1, if (altR (codes cs) 21 (Ps.st ⟨0, s.size, .slice none 0 0, 0, s, 0, true, 0, 0, 0⟩ [])).2.i < (codes cs).length then failS 8 (altR (codes cs) 21 (Ps.st ⟨0, s.size, .slice none 0 0, 0, s, 0, true, 0, 0, 0⟩ [])).2 else (altR (codes cs) 21 (Ps.st ⟨0, s.size, .slice none 0 0, 0, s, 0, true, 0, 0, 0⟩ [])).2) := rfl
  have HB1 := Lib.hid (ap_below HW.out (hA1.mono (fun k hk h => Nat.le_trans HPc.out h)))
  generalize altR (codes cs) 21 (Ps.st ⟨0, s.size, .slice none 0 0, 0, s, 0, true, 0, 0, 0⟩ []) = x at *
  obtain ⟨top, stx⟩ := x
  dsimp only at hst1 hD ⊢
  subst hst1
  have c4 := blk_cell hK1.blk 4
  simp [Ps.cells] at c4
  have f4 : w1.frozen? ⟨wC.heap.size, 4, none⟩ = false := free_blk (i := 4) hK1.blk
  have hK2 := hK1.setTop top
  have HB2 : Hid (Below w.heap.size w (w1.setCell ⟨wC.heap.size, 4, none⟩ (.int .i64 top))) := Lib.hid (ap_below HB1.out ((setA (pb := wC.heap.size) (i := 4) _).mono (fun k hk h => by have := HPc.out; omega)))
  obtain ⟨q0, q1, q3, -, -, q9, -⟩ := hK2.cells
  have HK2 := Lib.hid hK2
  have hcl : (codes cs).length = cs.length := List.length_map _
  have hle := HLe.out
  by_cases hi : p1.i < cs.length
  ·have hdi : decide ((p1.i : Int) < (ln : Int)) = true := decide_eq_true (by omega)
   have hdn : decide (p1.i < ln) = true := decide_eq_true (by omega)
   have hdm : p1.i < ln := by omega
   have HD : Hid (docR (codes cs) = (top, failS 8 (p1.st l1))) := Lib.hid (by rw [hD, if_pos (by rw [hcl]; exact hi)])
   have HE2 := Lib.hid (fail_e (st := p1.st l1) (e := 8) (by decide))
   generalize hgw : w1.setCell ⟨wC.heap.size, 4, none⟩ (.int .i64 top) = w2 at *
   have HGw := Lib.hid hgw
   clear hD hK1 hA1 hi hcl hle hK2 hgw
   go_wp2_with fail
   rw [HGw.out]
   go_quiet (fail)
   go_wp2_with fail
   refine (k_fail 8 (HK2.out.below (bdr (Below.refl _ _) nq))).mono ?_
   rintro e w3 ⟨rfl, p3, hT3⟩
   have hst3 : p3.st l1 = failS 8 (p1.st l1) := hT3.st
   have he3 : p3.e = (failS 8 (p1.st l1)).e := congrArg St.e hst3
   have hne3 : (p3.e != 0) = true := by rw [he3]; simpa using HE2.out
   obtain ⟨-, -, -, -, -, r9, -⟩ := hT3.at_.cells
   have r8 := blk_cell hT3.at_.blk 8
   simp [Ps.cells] at r8
   have HB3 := Lib.hid (ap_below (bthen HB2.out (bdr (Below.refl _ _) nq)) (hT3.apart.mono (fun k hk h => by have := HPc.out; omega)))
   have HP3 : Hid (parseE s = p3.e) := Lib.hid (by rw [HE.out, HD.out, he3])
   generalize p3.e = e3 at *
   generalize p3.bad = b3 at *
   clear hT3 hst3 he3 HD HE2
   go_wp2_with fail
   go_quiet (fail)
   go_wp2_with fail
   go_ret3
   exact ⟨_, _, tup_pp HP3.out.symm, ⟨fun e => (by rw [HP3.out] at e; simp [e] at hne3), bthen HB3.out (bdr (Below.refl _ _) _)⟩⟩
  ·have hdi : decide ((p1.i : Int) < (ln : Int)) = false := decide_eq_false (by omega)
   have hdn : decide (p1.i < ln) = false := decide_eq_false (by omega)
   have hdm : ¬ p1.i < ln := by omega
   have HD : Hid (docR (codes cs) = (top, p1.st l1)) := Lib.hid (by rw [hD, if_neg (by rw [hcl]; exact hi)])
   have HP3 : Hid (parseE s = p1.e) := Lib.hid (by rw [HE.out, HD.out]; rfl)
   have r8 := blk_cell hK2.blk 8
   simp [Ps.cells] at r8
   have HX := Lib.hid hK2.xat
   generalize hgw : w1.setCell ⟨wC.heap.size, 4, none⟩ (.int .i64 top) = w2 at *
   have HGw := Lib.hid hgw
   clear hD hK1 hA1 hi hcl hle hK2 hgw
   by_cases he : p1.e = 0
   ·have hne3 : (p1.e != 0) = false := by simp [he]
    have HL : Hid (l1.map Nc.key = (docR (codes cs)).2.L) := Lib.hid (by rw [HD.out]; rfl)
    have HT : Hid ((docR (codes cs)).1 = top) := Lib.hid (by rw [HD.out])
    have HP4 : Hid (parseE s = 0) := Lib.hid (by rw [HP3.out, he])
    generalize p1.e = e3 at *
    generalize p1.bad = b3 at *
    generalize p1.i = i3 at *
    clear he HP3 HD
    go_wp2_with fail
    rw [HGw.out]
    go_quiet (fail)
    go_wp2_with fail
    go_ret3
    refine ⟨_, _, tup_pp HP4.out.symm, ⟨fun _ => ⟨wC.heap.size, p1.lv, l1, rfl, ?_, by rw [HCs.out]; exact HL.out⟩, bthen HB2.out (bdr (Below.refl _ _) _)⟩⟩
    rw [HCs.out, HT.out]
    exact HX.out.below (bdr (Below.refl _ _) _)
   ·have hne3 : (p1.e != 0) = true := by simp [he]
    clear he HX HD
    generalize p1.e = e3 at *
    generalize p1.bad = b3 at *
    generalize p1.i = i3 at *
    go_wp2_with fail
    rw [HGw.out]
    go_quiet (fail)
    go_wp2_with fail
    go_quiet (fail)
    go_wp2_with fail
    go_ret3
    exact ⟨_, _, tup_pp HP3.out.symm, ⟨fun e => (by rw [HP3.out] at e; simp [e] at hne3), bthen (bthen HB2.out (bdr (Below.refl _ _) _)) (bdr (Below.refl _ _) _)⟩⟩
set_option maxRecDepth 100000 in
theorem k_check (s : ByteArray) (w : World) : Calls Tryz.prog 64 #[.string s] w fun e w' => e = .returned (.int .i64 (parseE s)) ∧ Below w.heap.size w w' := by
 have HCall := Lib.hid (k_parse s w)
 go_enter Tryz.func64, Tryz.ntmps64
 go_wp2_with fail
 refine HCall.out.mono ?_
 rintro e w1 ⟨ptr, bad, rfl, -, hB⟩
 have HB := Lib.hid hB
 clear hB HCall
 go_wp2_with fail
 go_ret
 exact ⟨rfl, HB.out⟩
end Go.Proofs.YtlhmdgaohonpbaaGreatDoor
