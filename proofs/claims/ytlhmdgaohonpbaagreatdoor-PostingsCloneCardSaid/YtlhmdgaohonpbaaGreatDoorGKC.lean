import Derived.Test.YtlhmdgaohonpbaaGreatDoorGKB
set_option linter.unusedSimpArgs false
set_option linter.unusedVariables false
set_option linter.unusedSectionVars false
namespace Go.Proofs.YtlhmdgaohonpbaaGreatDoor
open Go.RowKit Go.Proofs.YtlhmdgaohonpbaaGreatDoor.MapRaw Go.ChangeMaps
def SngKPost (pb : Nat) (cv : Value) (cs : List Ch) (p : Ps) (l : List Nc) (w : World) (r : (Int × List Sp) × St) (e : Ending) (w' : World) : Prop :=
 ∃ v p', e = .returned (.tuple #[.int .i32 r.1.1, v]) ∧ OwnR w' w.heap.size v r.1.2 ∧ KTo pb cv cs p l w r.2 p' w'
theorem ownR_nil (w : World) (base : Nat) : OwnR w base (.slice none 0 0) [] := ⟨rfl, .inl ⟨rfl, rfl⟩⟩
theorem KTo.step {pb : Nat} {cv : Value} {cs : List Ch} {p p1 : Ps} {l : List Nc} {w W : World} {st : St} (h : KTo pb cv cs p l w st p1 W) (hlt : p1.i < cs.length) : KTo pb cv cs p l w (stepI st) { p1 with i := p1.i + 1 } (W.setCell ⟨pb, 1, none⟩ (.int .i64 ((p1.i : Int) + 1))) :=
 ⟨h.at_.inc hlt, h.lv, by rw [← h.st]; rfl, h.apart.trans (setA _) (fun _ _ h => h)⟩
theorem now_lt' {cs : List Ch} {p : Ps} {l : List Nc} (h : rnF (codes cs) (p.st l) ≠ -2) : p.e = 0 ∧ p.i < cs.length := by
 obtain ⟨h1, h2, -⟩ := now_lt h
 exact ⟨h1, by simpa [codes, Ps.st] using h2⟩
set_option maxRecDepth 100000 in
set_option maxHeartbeats 2000000 in
theorem k_single {pb : Nat} {cv : Value} {cs : List Ch} {p : Ps} {l : List Nc} {w : World} (h : KAt pb cv cs p l w) :
  Calls Tryz.prog 162 #[.pointer (some ⟨pb, 0, none⟩)] w (SngKPost pb cv cs p l w (singleR (codes cs) (p.st l))) := by
 unfold SngKPost
 have HCall := Lib.hid (k_now h)
 have HK := Lib.hid h
 have hsr : singleR (codes cs) (p.st l) = if rnF (codes cs) (p.st l) = 92 then (if (escR (codes cs) (p.st l)).2.e ≠ 0 ∨ wideR (escR (codes cs) (p.st l)).1 = true then ((0, (escR (codes cs) (p.st l)).1), (escR (codes cs) (p.st l)).2) else ((loOf (escR (codes cs) (p.st l)).1, []), (escR (codes cs) (p.st l)).2)) else if noSingle (rnF (codes cs) (p.st l)) = true then ((0, []), failS 8 (p.st l)) else ((rnF (codes cs) (p.st l), []), stepI (p.st l)) := rfl
 have hlt := fun (e : rnF (codes cs) (p.st l) ≠ -2) => (now_lt' e).2
 have HLt := Lib.hid hlt
 have HEsc : Hid (rnF (codes cs) (p.st l) = 92 → ∀ W, Below w.heap.size w W → Calls Tryz.prog 155 #[.pointer (some ⟨pb, 0, none⟩)] W (EscKPost pb cv cs p l W (escR (codes cs) (p.st l)))) := Lib.hid fun e W hW => k_escape (h.below hW) e
 generalize escR (codes cs) (p.st l) = es at *
 generalize singleR (codes cs) (p.st l) = res at *
 generalize rnF (codes cs) (p.st l) = c at *
 have HSr := Lib.hid hsr
 clear hsr hlt h
 by_cases h92 : c = 92
 ·subst h92
  have hres := HSr.out
  rw [if_pos rfl] at hres
  have HRes := Lib.hid hres
  have HEs := Lib.hid (HEsc.out rfl)
  clear hres HSr HEsc
  go_enter Tryz.func162, Tryz.ntmps162
  go_wp2_with fail
  refine HCall.out.mono ?_
  rintro e w1 ⟨rfl, hb1⟩
  have HB1 := Lib.hid hb1
  clear hb1
  go_wp2_with fail
  refine (HEs.out _ HB1.out).mono ?_
  rintro e w2 ⟨gv, p2, rfl, hO, hT⟩
  have HT := Lib.hid (⟨hT.at_, hT.lv, hT.st, (below_apart HB1.out _).trans hT.apart (fun _ _ h => h)⟩ : KTo pb cv cs p l w es.2 p2 w2)
  have HO := Lib.hid (own_shift hO HB1.out.size)
  obtain ⟨A, cc, rfl⟩ := own_slice hO
  have c9 := hT.at_.cells.2.2.2.2.2.1
  have he : p2.e = es.2.e := by rw [← hT.st]; rfl
  have HE := Lib.hid he
  clear hO hT he
  by_cases h9 : p2.e = 0
  ·have hb9 : (p2.e != 0) = false := by simp [h9]
   have HW := Lib.hid (fun (W : World) (hW : Below w2.heap.size w2 W) => k_wide W (own_below HO.out hW))
   have H9 := Lib.hid h9
   clear h9
   go_wp2_with fail
   refine (HW.out _ (Below.refl _ _)).mono ?_
   rintro e w3 ⟨rfl, hb3⟩
   have HT3 := Lib.hid (HT.out.below hb3)
   have HO3 := Lib.hid (own_below HO.out hb3)
   clear hb3
   by_cases hwd : wideR es.1 = true
   ·have hr2 : res = ((0, es.1), es.2) := by rw [HRes.out, if_pos (.inr hwd)]
    rw [hwd]
    clear c9 hb9
    go_wp2_with fail
    go_ret2
    rw [hr2]
    exact ⟨_, _, rfl, HO3.out, HT3.out⟩
   ·have hwf : wideR es.1 = false := by simpa using hwd
    have hr2 : res = ((loOf es.1, []), es.2) := by rw [HRes.out, if_neg (fun g => g.elim (fun g => g (by rw [← HE.out]; exact H9.out)) hwd)]
    obtain ⟨y, hy⟩ : ∃ y, es.1 = [y] := by
     cases hh : es.1 with
     | nil => rw [hh] at hwf; cases hwf
     | cons x t => cases t with
      | nil => exact ⟨x, rfl⟩
      | cons _ _ => rw [hh] at hwf; cases hwf
    have hlo : loOf es.1 = y.lo := by rw [hy]; rfl
    rw [hlo] at hr2
    have HR2 := Lib.hid hr2
    have hO4 := HO3.out
    have hl1 : es.1.length = 1 := by rw [hy]; rfl
    rw [hwf]
    rw [hl1] at hO4 ⊢
    rw [hy] at hO4
    obtain ⟨b, off, c4, hveq, z0, z1⟩ := own_r1 hO4
    simp only [Value.slice.injEq] at hveq
    obtain ⟨rfl, -, rfl⟩ := hveq
    clear hwd hwf hO4 hb9 c9 hl1 hy hlo hr2
    go_wp2_with fail
    go_ret2
    rw [HR2.out]
    exact ⟨_, _, rfl, ownR_nil _ _, HT3.out⟩
  ·have hb9 : (p2.e != 0) = true := by simp [h9]
   have hr2 : res = ((0, es.1), es.2) := by rw [HRes.out, if_pos (.inl (by rw [← HE.out]; exact h9))]
   clear h9
   go_wp2_with fail
   go_ret2
   rw [hr2]
   exact ⟨_, _, rfl, HO.out, HT.out⟩
 ·have e92 : (c == 92) = false := by simpa using h92
  have hres := HSr.out
  rw [if_neg h92] at hres
  clear HSr HEsc h92
  by_cases hns : noSingle c = true
  ·have hr2 : res = ((0, []), failS 8 (p.st l)) := by rw [hres, if_pos hns]
   have HR2 := Lib.hid hr2
   have hcs : (decide (c < 0) = true) ∨ (decide (c < 0) = false ∧ (c == 91) = true) ∨ (decide (c < 0) = false ∧ (c == 91) = false ∧ (c == 93) = true) ∨ (decide (c < 0) = false ∧ (c == 91) = false ∧ (c == 93) = false ∧ (c == 94) = true) ∨ (decide (c < 0) = false ∧ (c == 91) = false ∧ (c == 93) = false ∧ (c == 94) = false ∧ (c == 45) = true) := by
    unfold noSingle at hns
    simp only [Bool.or_eq_true, decide_eq_true_eq, beq_eq_false_iff_ne, ne_eq, beq_iff_eq, decide_eq_false_iff_not] at hns ⊢
    omega
   clear hres hns hr2
   rcases hcs with h1 | ⟨h1, h2⟩ | ⟨h1, h2, h3⟩ | ⟨h1, h2, h3, h4⟩ | ⟨h1, h2, h3, h4, h5⟩
   all_goals
    go_enter Tryz.func162, Tryz.ntmps162
    go_wp2_with fail
    refine HCall.out.mono ?_
    rintro e w1 ⟨rfl, hb1⟩
    have HK1 := Lib.hid (HK.out.below hb1)
    have HB1 := Lib.hid hb1
    clear hb1
    go_wp2_with fail
    refine (k_fail 8 HK1.out).mono ?_
    rintro e w4 ⟨rfl, p4, h4⟩
    have HT4 := Lib.hid (⟨h4.at_, h4.lv, h4.st, (below_apart HB1.out _).trans h4.apart (fun _ _ h => h)⟩ : KTo pb cv cs p l w (failS 8 (p.st l)) p4 w4)
    clear h4
    go_wp2_with fail
    go_ret2
    rw [HR2.out]
    exact ⟨_, _, rfl, ownR_nil _ _, HT4.out⟩
  ·have hr2 : res = ((c, []), stepI (p.st l)) := by rw [hres, if_neg hns]
   have HR2 := Lib.hid hr2
   have hcs : decide (c < 0) = false ∧ (c == 91) = false ∧ (c == 93) = false ∧ (c == 94) = false ∧ (c == 45) = false := by
    unfold noSingle at hns
    simp only [Bool.or_eq_true, decide_eq_true_eq, beq_eq_false_iff_ne, ne_eq, beq_iff_eq, decide_eq_false_iff_not] at hns ⊢
    omega
   have h0 : c ≠ -2 := by have := hcs.1; simp at this; omega
   have hlt := HLt.out h0
   have hw2 := i_wrap (Nat.le_of_lt hlt) HK.out.len
   have HLt2 := Lib.hid hlt
   clear hres hns hr2 h0 hlt
   obtain ⟨h1, h2, h3, h4, h5⟩ := hcs
   go_enter Tryz.func162, Tryz.ntmps162
   go_wp2_with fail
   refine HCall.out.mono ?_
   rintro e w1 ⟨rfl, hb1⟩
   have HT1 := Lib.hid ((KTo.refl HK.out).below hb1)
   have q1 := HT1.out.at_.cells.2.1
   have q2 := free_blk (i := 1) HT1.out.at_.blk
   clear hb1
   go_wp2_with fail
   go_ret2
   rw [HR2.out]
   exact ⟨_, _, rfl, ownR_nil _ _, HT1.out.step HLt2.out⟩
end Go.Proofs.YtlhmdgaohonpbaaGreatDoor

namespace Go.Proofs.YtlhmdgaohonpbaaGreatDoor
open Go.RowKit Go.Proofs.YtlhmdgaohonpbaaGreatDoor.MapRaw Go.ChangeMaps
def LstKPost (pb : Nat) (cv : Value) (cs : List Ch) (p : Ps) (l : List Nc) (w : World) (r : Int × St) (e : Ending) (w' : World) : Prop :=
 ∃ p', e = .returned (.int .i32 r.1) ∧ KTo pb cv cs p l w r.2 p' w'
theorem KTo.setI {pb : Nat} {cv : Value} {cs : List Ch} {p p1 : Ps} {l : List Nc} {w W : World} {st : St} (h : KTo pb cv cs p l w st p1 W) {n : Nat} (hlt : n ≤ cs.length) : KTo pb cv cs p l w { st with i := n } { p1 with i := n } (W.setCell ⟨pb, 1, none⟩ (.int .i64 (n : Int))) :=
 ⟨h.at_.setI hlt, h.lv, by rw [← h.st]; rfl, h.apart.trans (setA _) (fun _ _ h => h)⟩
theorem single_fwd {cs : List Ch} {p p2 : Ps} {l : List Nc} {w w2 : World} {pb : Nat} {cv : Value} (h : KTo pb cv cs p l w (singleR (codes cs) (p.st l)).2 p2 w2) (hi : p.i ≤ cs.length) (he : p2.e = 0) : p.e = 0 ∧ p.i < cs.length := by
 have h1 := go_single (cs := codes cs) (st := p.st l) (by simpa [codes, Ps.st] using hi)
 have h2 : (singleR (codes cs) (p.st l)).2.e = 0 := by rw [← h.st]; exact he
 have h3 := h1.fwd h2
 have h4 := h1.hi
 have h5 : (codes cs).length = cs.length := by simp [codes]
 have h6 : (p.st l).i = p.i := rfl
 exact ⟨h3.1, by omega⟩
set_option maxRecDepth 100000 in
set_option maxHeartbeats 2000000 in
theorem k_last {pb : Nat} {cv : Value} {cs : List Ch} {p : Ps} {l : List Nc} {w : World} (lo : Int) (h : KAt pb cv cs p l w) :
    Calls Tryz.prog 163 #[.pointer (some ⟨pb, 0, none⟩), .int .i32 lo] w (LstKPost pb cv cs p l w (lastR (codes cs) lo (p.st l))) := by
  unfold LstKPost
  have HCall := Lib.hid (k_now h)
  have HK := Lib.hid h
  have c1 := h.cells.2.1
  have hlr : lastR (codes cs) lo (p.st l) = if rnF (codes cs) (p.st l) = 92 ∧ 125 < lo then (0, failS 8 (p.st l)) else if (singleR (codes cs) (p.st l)).2.e = 0 ∧ ((singleR (codes cs) (p.st l)).1.2 ≠ [] ∨ (singleR (codes cs) (p.st l)).1.1 < lo) then ((singleR (codes cs) (p.st l)).1.1, failS 8 { (singleR (codes cs) (p.st l)).2 with i := if rnF (codes cs) (p.st l) = 92 then p.i + 1 else p.i }) else ((singleR (codes cs) (p.st l)).1.1, (singleR (codes cs) (p.st l)).2) := rfl
  have HSng := Lib.hid fun (W : World) (hW : Below w.heap.size w W) => k_single (h.below hW)
  have HFwd := Lib.hid fun (p2 : Ps) (w w2 : World) (h2 : KTo pb cv cs p l w (singleR (codes cs) (p.st l)).2 p2 w2) => single_fwd h2 h.hi
  have HAt := Lib.hid fun (he : p.e = 0) (hi : p.i < cs.length) => now_at (l := l) he hi
  generalize singleR (codes cs) (p.st l) = es at *
  generalize lastR (codes cs) lo (p.st l) = res at *
  generalize rnF (codes cs) (p.st l) = c at *
  have HLr := Lib.hid hlr
  clear hlr h
  by_cases h1 : c = 92 ∧ 125 < lo
  · have hres : res = (0, failS 8 (p.st l)) := by rw [HLr.out, if_pos h1]
    have HRes := Lib.hid hres
    have hd : decide (lo > 125) = true := decide_eq_true h1.2
    have hd2 : decide (125 < lo) = true := decide_eq_true h1.2
    obtain ⟨rfl, -⟩ := h1
    clear hres HLr
    go_enter Tryz.func163, Tryz.ntmps163
    go_wp2_with fail
    refine HCall.out.mono ?_
    rintro e w1 ⟨rfl, hb1⟩
    have HT1 := Lib.hid ((KTo.refl HK.out).below hb1)
    clear hb1
    go_wp2_with fail
    refine (k_fail 8 HT1.out.at_).mono ?_
    rintro e w4 ⟨rfl, p4, h4⟩
    have HT4 := Lib.hid (HT1.out.then h4)
    clear h4
    go_wp2_with fail
    go_ret
    rw [HRes.out]
    exact ⟨_, rfl, HT4.out⟩
  · have hres : res = if es.2.e = 0 ∧ (es.1.2 ≠ [] ∨ es.1.1 < lo) then (es.1.1, failS 8 { es.2 with i := if c = 92 then p.i + 1 else p.i }) else (es.1.1, es.2) := by rw [HLr.out, if_neg h1]
    have HRes := Lib.hid hres
    have hcs : (c == 92) = false ∨ ((c == 92) = true ∧ decide (lo > 125) = false ∧ decide (125 < lo) = false) := by
      by_cases g : c = 92
      · exact .inr ⟨by simpa using g, decide_eq_false (fun q => h1 ⟨g, q⟩), decide_eq_false (fun q => h1 ⟨g, q⟩)⟩
      · exact .inl (by simpa using g)
    clear hres HLr h1
    rcases hcs with h92 | ⟨h92, hd, hd2⟩
    all_goals
      go_enter Tryz.func163, Tryz.ntmps163
      go_wp2_with fail
      refine HCall.out.mono ?_
      rintro e w1 ⟨rfl, hb1⟩
      have HB1 := Lib.hid hb1
      clear hb1
      go_wp2_with fail
      refine (HSng.out _ HB1.out).mono ?_
      rintro e w2 ⟨gv, p2, rfl, hO, hT⟩
      have HT := Lib.hid (⟨hT.at_, hT.lv, hT.st, (below_apart HB1.out _).trans hT.apart (fun _ _ h => h)⟩ : KTo pb cv cs p l w es.2 p2 w2)
      obtain ⟨A, cc, rfl⟩ := own_slice hO
      have c9 := hT.at_.cells.2.2.2.2.2.1
      have he : p2.e = es.2.e := by rw [← hT.st]; rfl
      have HE := Lib.hid he
      clear hO hT he
      by_cases hf : es.2.e = 0 ∧ (es.1.2 ≠ [] ∨ es.1.1 < lo)
      · have hr2 : res = (es.1.1, failS 8 { es.2 with i := if c = 92 then p.i + 1 else p.i }) := by rw [HRes.out, if_pos hf]
        have HR2 := Lib.hid hr2
        have h90 : p2.e = 0 := by rw [HE.out]; exact hf.1
        have hb9 : (p2.e == 0) = true := by simp [h90]
        obtain ⟨hpe, hpi⟩ := HFwd.out p2 w w2 HT.out h90
        have hcc := HAt.out hpe hpi
        have hcs2 : (decide (0 < es.1.2.length) = true) ∨ (decide (0 < es.1.2.length) = false ∧ decide (es.1.1 < lo) = true) := by
          by_cases g : es.1.2 = []
          · right
            rcases hf.2 with q | q
            · exact (q g).elim
            · rw [g]; exact ⟨rfl, decide_eq_true q⟩
          · left; exact decide_eq_true (List.length_pos_iff.2 g)
        have HT3 := Lib.hid (HT.out.setI (n := p.i) (Nat.le_of_lt hpi))
        have q1 := HT3.out.at_.cells
        obtain ⟨q0, q1, -, -, -, q9, -⟩ := q1
        have f1 := free_blk (i := 1) HT.out.at_.blk
        have f2 := free_blk (i := 1) HT3.out.at_.blk
        have x1 := HT.out.at_.cells.2.1
        obtain ⟨Ac, cx, hcv, hR⟩ := HT3.out.at_.chars
        obtain ⟨b, off, hAc, z⟩ := hR _ _ (List.getElem?_eq_getElem hpi)
        have z0 := z 0 _ rfl
        simp only [Nat.add_zero] at z0
        have hcv2 : cv = .slice (some ⟨b, off, none⟩) cs.length cx := by rw [hcv, hAc]
        rw [← hcc] at z0
        have hi0 : (0 : Int) ≤ (p.i : Int) := by omega
        have hi1 : (p.i : Int) < (cs.length : Int) := by omega
        have hw2 := i_wrap (Nat.le_of_lt hpi) HK.out.len
        have HT4 : Hid (KTo pb cv cs p l w { es.2 with i := p.i + 1 } { p2 with i := p.i + 1 } ((w2.setCell ⟨pb, 1, none⟩ (.int .i64 (p.i : Int))).setCell ⟨pb, 1, none⟩ (.int .i64 ((p.i : Int) + 1)))) := Lib.hid (HT3.out.step (hpi))
        have q0' : (w2.setCell ⟨pb, 1, none⟩ (.int .i64 (p.i : Int))).cell? ⟨pb, 0, none⟩ = some (.slice (some ⟨b, off, none⟩) cs.length cx) := by rw [← hcv2]; exact q0
        clear hr2 hf h90 hpe hpi hcc hR z hcv hcv2 hAc q0
        generalize hgl : es.1.2.length = ng at *
        clear hgl
        by_cases g92 : c = 92
        · first
            | (exfalso; rw [g92] at h92; exact absurd h92 (by decide))
            | (have hb : (c == 92) = true := by simpa using g92
               have hif : (if c = 92 then p.i + 1 else p.i) = p.i + 1 := if_pos g92
               have HIf := Lib.hid hif
               clear hif g92
               rcases hcs2 with g1 | ⟨g1, g2⟩
               all_goals
                 go_wp2_with fail
                 refine (k_fail 8 HT4.out.at_).mono ?_
                 rintro e w4 ⟨rfl, p4, h4⟩
                 have HT5 := Lib.hid (HT4.out.then h4)
                 clear h4
                 go_wp2_with fail
                 go_ret
                 rw [HR2.out, HIf.out, ← HT4.out.st]
                 exact ⟨_, rfl, HT5.out⟩)
        · first
            | (exact absurd (by simpa using h92) g92)
            | (have hb : (c == 92) = false := by simpa using g92
               have hif : (if c = 92 then p.i + 1 else p.i) = p.i := if_neg g92
               have HIf := Lib.hid hif
               clear hif g92
               rcases hcs2 with g1 | ⟨g1, g2⟩
               all_goals
                 go_wp2_with fail
                 refine (k_fail 8 HT3.out.at_).mono ?_
                 rintro e w4 ⟨rfl, p4, h4⟩
                 have HT5 := Lib.hid (HT3.out.then h4)
                 clear h4
                 go_wp2_with fail
                 go_ret
                 rw [HR2.out, HIf.out, ← HT3.out.st]
                 exact ⟨_, rfl, HT5.out⟩)
      · have hr2 : res = (es.1.1, es.2) := by rw [HRes.out, if_neg hf]
        have HR2 := Lib.hid hr2
        have hcs2 : ((p2.e == 0) = false) ∨ ((p2.e == 0) = true ∧ decide (0 < es.1.2.length) = false ∧ decide (es.1.1 < lo) = false) := by
          by_cases g : es.2.e = 0
          · refine .inr ⟨by rw [HE.out]; simpa using g, ?_, decide_eq_false (fun q => hf ⟨g, .inr q⟩)⟩
            have : es.1.2 = [] := Classical.byContradiction fun q => hf ⟨g, .inl q⟩
            rw [this]; rfl
          · exact .inl (by rw [HE.out]; simpa using g)
        clear hr2 hf
        generalize hgl : es.1.2.length = ng at *
        clear hgl
        rcases hcs2 with g1 | ⟨g1, g2, g3⟩
        all_goals
          go_wp2_with fail
          go_ret
          rw [HR2.out]
          exact ⟨_, rfl, HT.out⟩
end Go.Proofs.YtlhmdgaohonpbaaGreatDoor

namespace Go.Proofs.YtlhmdgaohonpbaaGreatDoor
open Go.RowKit Go.Proofs.YtlhmdgaohonpbaaGreatDoor.MapRaw Go.ChangeMaps
def KPost (pb : Nat) (cv : Value) (cs : List Ch) (w : World) (r : Int × St) (e : Ending) (w' : World) : Prop :=
 e = .returned (.int .i64 r.1) ∧ ∃ p' l', KAt pb cv cs p' l' w' ∧ p'.st l' = r.2 ∧ Apart (fun k => pb ≤ k) w w'
def KM (pb : Nat) (w : World) : Nat := if ((w.cell? ⟨pb, 9, none⟩).map intOf).getD 0 = 0 then 300 - (((w.cell? ⟨pb, 1, none⟩).map intOf).getD 0).toNat else 0
theorem KM_at {pb : Nat} {cv : Value} {cs : List Ch} {p : Ps} {l : List Nc} {w : World} (h : KAt pb cv cs p l w) : KM pb w = if p.e = 0 then 300 - p.i else 0 := by
 obtain ⟨-, c1, -, -, -, c9, -⟩ := h.cells
 unfold KM
 rw [c1, c9]
 show (if p.e = 0 then 300 - ((p.i : Int)).toNat else 0) = _
 rw [Int.toNat_natCast]
theorem KM_lt {pb : Nat} {cv : Value} {cs : List Ch} {p p' : Ps} {l l' : List Nc} {w w' : World} (h : KAt pb cv cs p l w) (h' : KAt pb cv cs p' l' w') (he : p.e = 0) (hf : p'.e = 0 → p.i + 1 ≤ p'.i) : KM pb w' < KM pb w := by
 rw [KM_at h, KM_at h', if_pos he]
 have := h.hi
 have := h.len
 split
 ·next g => have := hf g; have := h'.hi; omega
 ·omega
theorem info_rr : (Tryz.prog.info? 214).map (fun i => (i.zero, i.size, i.bytes)) = some (some (.agg #[.int .i32 0, .int .i32 0]), 2, 8) := by kernel_rfl
theorem ownR_src {W : World} {base : Nat} {v : Value} {l : List Sp} (h : OwnR W base v l) : SrcAt W v l.length 2 (l.flatMap Sp.enc) :=
 (own_slc (enc := Sp.enc) (fun _ => rfl) rfl h).src (enc := Sp.enc) (sz := 2) (fun _ => rfl) sp_one (by decide)
structure ClsK (w : World) (pb : Nat) (cv : Value) (cs : List Ch) (p : Ps) (l : List Nc) (but : Bool) (sv : Value) (acc : List Sp) (p' : Ps) (W : World) : Prop where
 at_ : KAt pb cv cs p' l W
 lv : p'.lv = p.lv
 blk : W.heap[w.heap.size]? = some (.cells #[.int .i64 0, .int .i64 0, .int .i64 0, sv, .bool but] 183 (0, 0))
 own : W.ownsRow (w.heap.size + 1) 214 2 sv acc.length (acc.flatMap Sp.enc)
 apart : Apart (fun k => k = pb) w W
 lt : pb < w.heap.size
 lvlt : ∀ k, p.lv.ownBlock = some k → k < w.heap.size
 sets : ∀ x ∈ l, Slc 2 Sp.enc W (fun k => k < w.heap.size ∧ pb < k ∧ p.lv.ownBlock ≠ some k) x.sv x.set
section
variable {w W W' : World} {pb : Nat} {cv sv v1 : Value} {cs : List Ch} {p p' p2 : Ps} {l : List Nc} {but : Bool} {acc g : List Sp} {st : St}
theorem ClsK.size (h : ClsK w pb cv cs p l but sv acc p' W) : w.heap.size + 1 ≤ W.heap.size := (Array.getElem?_eq_some_iff.1 h.blk).1
theorem ClsK.turn (h : ClsK w pb cv cs p l but sv acc p' W) (hT : KTo pb cv cs p' l W st p2 W') : ClsK w pb cv cs p l but sv acc p2 W' :=
 ⟨hT.at_, hT.lv.trans h.lv, by rw [hT.apart.block _ (Array.getElem?_eq_some_iff.1 h.blk).1 (by have := h.lt; omega)]; exact h.blk, ownsRow_move h.own (fun k hk => hT.apart.block k (ownsRow_blk h.own k hk).2 (by have := (ownsRow_blk h.own k hk).1; have := h.lt; omega)), h.apart.trans hT.apart (fun _ _ h => h), h.lt, h.lvlt, fun x hx => (h.sets x hx).move hT.apart.size (fun k hk hD => hT.apart.block k hk (by have := hD.2.1; omega))⟩
theorem ClsK.below (h : ClsK w pb cv cs p l but sv acc p' W) (hb : Below W.heap.size W W') : ClsK w pb cv cs p l but sv acc p' W' := h.turn ((KTo.refl h.at_).below hb)
theorem ClsK.frame {o : Obj} (h : ClsK w pb cv cs p l but sv acc p' W) (hA : Apart (fun k => w.heap.size ≤ k) W W') (hb : W'.heap[w.heap.size]? = some (.cells #[.int .i64 0, .int .i64 0, .int .i64 0, v1, .bool but] 183 (0, 0))) (ho : W'.ownsRow (w.heap.size + 1) 214 2 v1 g.length (g.flatMap Sp.enc)) : ClsK w pb cv cs p l but v1 g p' W' := by
 have hlt := h.lt
 have hsz := h.size
 have hkb : ∀ k, k < w.heap.size → W'.heap[k]? = W.heap[k]? := fun k hk => hA.block k (by omega) (by omega)
 refine ⟨⟨by rw [hkb pb hlt]; exact h.at_.blk, h.at_.chr.move hA.size (fun k hk hD => hkb k (by omega)), h.at_.hi, h.at_.len, ownsRow_move h.at_.row (fun k hk => hkb k (by rw [h.lv] at hk; exact h.lvlt k hk)), fun x hx => ?_⟩, h.lv, hb, ho, h.apart.trans hA (fun k hk hD => by omega), hlt, h.lvlt, fun x hx => (h.sets x hx).move hA.size (fun k hk hD => hkb k hD.1)⟩
 rw [h.lv]
 exact Slc.to (h.sets x hx) hA.size (fun k hk hD => hkb k hD.1) (fun k hk hD => hD.2)
theorem ClsK.push (h : ClsK w pb cv cs p l but sv acc p' W) (ho : W'.ownsRow (w.heap.size + 1) 214 2 v1 (acc.length + g.length) (acc.flatMap Sp.enc ++ g.flatMap Sp.enc)) (hb : Below (w.heap.size + 1) W W') : ClsK w pb cv cs p l but v1 (acc ++ g) p' (W'.setCell ⟨w.heap.size, 3, none⟩ v1) := by
 have hlt := h.lt
 have hsz := h.size
 refine h.frame (o := .cells #[] 0 (0, 0)) (Apart.setC (P := fun k => w.heap.size ≤ k) ⟨hb.os, hb.tape, hb.output, hb.size, fun k _ hk => hb.block k (by omega)⟩ ⟨w.heap.size, 3, none⟩ (.inl (Nat.le_refl _)) v1) ?_ ?_
 ·exact setCell_blk (i := 3) v1 ((hb.block _ (by omega)).trans h.blk)
 ·have := ownsRow_move (w' := W'.setCell ⟨w.heap.size, 3, none⟩ v1) ho (fun k hk => Below.heap_setCell _ _ _ _ (by have := (ownsRow_blk ho k hk).1; show k ≠ w.heap.size; omega))
  rw [List.length_append, List.flatMap_append]
  exact this
theorem ClsK.not (h : ClsK w pb cv cs p l but sv acc p' W) : ClsK w pb cv cs p l true sv acc p' (W.setCell ⟨w.heap.size, 4, none⟩ (.bool true)) := by
 have hlt := h.lt
 have hsz := h.size
 have hA : Apart (fun k => w.heap.size ≤ k) W (W.setCell ⟨w.heap.size, 4, none⟩ (.bool true)) := Apart.setC (P := fun k => w.heap.size ≤ k) (Apart.refl _ _) ⟨w.heap.size, 4, none⟩ (.inl (Nat.le_refl _)) _
 have hkb : ∀ k, k < w.heap.size → (W.setCell ⟨w.heap.size, 4, none⟩ (.bool true)).heap[k]? = W.heap[k]? := fun k hk => hA.block k (by omega) (by omega)
 refine ⟨⟨by rw [hkb pb hlt]; exact h.at_.blk, h.at_.chr.move hA.size (fun k hk hD => hkb k (by omega)), h.at_.hi, h.at_.len, ownsRow_move h.at_.row (fun k hk => hkb k (by rw [h.lv] at hk; exact h.lvlt k hk)), fun x hx => ?_⟩, h.lv, setCell_blk (i := 4) _ h.blk, ownsRow_move h.own (fun k hk => Below.heap_setCell _ _ _ _ (by have := (ownsRow_blk h.own k hk).1; show k ≠ w.heap.size; omega)), h.apart.trans hA (fun k hk hD => by omega), hlt, h.lvlt, fun x hx => (h.sets x hx).move hA.size (fun k hk hD => hkb k hD.1)⟩
 rw [h.lv]
 exact Slc.to (h.sets x hx) hA.size (fun k hk hD => hkb k hD.1) (fun k hk hD => hD.2)
theorem ClsK.start (h : KAt pb cv cs p l w) : ClsK w pb cv cs p l false (.slice none 0 0) [] p (w.alloc (.cells #[.int .i64 0, .int .i64 0, .int .i64 0, .slice none 0 0, .bool false] 183)) :=
 ⟨h.below (balloc (Below.refl _ _) _), rfl, blk_new _ _, ⟨rfl, .inl ⟨rfl, rfl⟩⟩, below_apart (balloc (Below.refl _ _) _) _, h.lt, fun k hk => (ownsRow_blk h.row k hk).2, fun x hx => (Slc.mono (h.sets x hx) (fun k hk hD => ⟨hk, hD⟩)).below (balloc (Below.refl _ _) _)⟩
theorem ClsK.slc (h : ClsK w pb cv cs p l but sv acc p' W) : Slc 2 Sp.enc W (fun k => pb < k ∧ p'.lv.ownBlock ≠ some k) sv acc :=
 (own_slc (enc := Sp.enc) (fun _ => rfl) rfl h.own).mono (fun k _ hk => ⟨by have := h.lt; omega, fun e => by rw [h.lv] at e; have := h.lvlt k e; omega⟩)
end
end Go.Proofs.YtlhmdgaohonpbaaGreatDoor

namespace Go.Proofs.YtlhmdgaohonpbaaGreatDoor
open Go.RowKit Go.Proofs.YtlhmdgaohonpbaaGreatDoor.MapRaw Go.ChangeMaps
theorem esc_len (cs : List Int) (st : St) : (escR cs st).1.length ≤ 4 := by
 unfold escR
 split
 ·show 1 ≤ 4; omega
 ·split
  ·show 0 ≤ 4; omega
  ·show (groupR _).length ≤ 4
   unfold groupR
   repeat' split
   all_goals decide
theorem single_len (cs : List Int) (st : St) : (singleR cs st).1.2.length ≤ 4 := by
 unfold singleR
 split
 ·split
  ·exact esc_len cs st
  ·show 0 ≤ 4; omega
 ·split
  ·show 0 ≤ 4; omega
  ·show 0 ≤ 4; omega
theorem classR_eq (cs : List Int) (st : St) (but : Bool) (hb : but = decide (rnF cs (stepI st) = 94)) : classR cs st = (match (classL cs (cs.length + 2) [] (if but = true then stepI (stepI st) else stepI st)).1 with | none => (0, (classL cs (cs.length + 2) [] (if but = true then stepI (stepI st) else stepI st)).2) | some l => addN ⟨0, 0, 0, l, but⟩ (classL cs (cs.length + 2) [] (if but = true then stepI (stepI st) else stepI st)).2) := by
 subst hb; rfl
def classE (but : Bool) (x : Option (List Sp) × St) : Int × St := match x.1 with | none => (0, x.2) | some l => addN ⟨0, 0, 0, l, but⟩ x.2
set_option maxRecDepth 100000 in
set_option maxHeartbeats 4000000 in
theorem k_class {pb : Nat} {cv : Value} {cs : List Ch} {p : Ps} {l : List Nc} {w : World} (h : KAt pb cv cs p l w) (h91 : rnF (codes cs) (p.st l) = 91) (hn : l.length ≤ 100000) :
  Calls Tryz.prog 154 #[.pointer (some ⟨pb, 0, none⟩)] w (KPost pb cv cs w (classR (codes cs) (p.st l))) := by
 unfold KPost
 obtain ⟨he0, hlt⟩ := now_lt' (by rw [h91]; decide)
 have hcl : (codes cs).length = cs.length := by simp [codes]
 have HC0 := Lib.hid (ClsK.start h)
 have c1 := HC0.out.at_.cells.2.1
 have f1 := free_blk (i := 1) HC0.out.at_.blk
 have hwr := i_wrap (Nat.le_of_lt hlt) h.len
 have hT1 := (KTo.refl HC0.out.at_).step hlt
 have HC1 := Lib.hid (HC0.out.turn hT1)
 obtain ⟨p1, hp1⟩ : ∃ p1, p1 = { p with i := p.i + 1 } := ⟨_, rfl⟩
 have hst : stepI (p.st l) = p1.st l := by rw [hp1]; rfl
 have hpi : p1.i = p.i + 1 := by rw [hp1]
 have hpe : p1.e = 0 := by rw [hp1]; exact he0
 rw [← hp1] at HC1
 have hres := fun but hb => classR_eq (codes cs) (p.st l) but hb
 rw [hst] at hres
 have HRes := Lib.hid hres
 have hnow : rnF (codes cs) (p1.st l) ≠ -2 → p1.i < cs.length := fun e => (now_lt' e).2
 have HNow := Lib.hid hnow
 have HCall := Lib.hid (k_now HC1.out.at_)
 have HLen := Lib.hid h.len
 have HPi := Lib.hid (show 1 ≤ p1.i by omega)
 have HPe := Lib.hid hpe
 have HNl := Lib.hid hn
 have HCl := Lib.hid hcl
 generalize hrn : rnF (codes cs) (p1.st l) = c at *
 generalize hcr : classR (codes cs) (p.st l) = res at *
 have HRn := Lib.hid hrn
 clear hst hnow h hres hlt hT1 hp1 hpi hpe hn hrn hcr he0 h91 hcl
 go_enter Tryz.func154, Tryz.ntmps154
 go_wp2_with fail
 refine HCall.out.mono ?_
 rintro e w1 ⟨rfl, hb1⟩
 have HC2 := Lib.hid (HC1.out.below hb1)
 clear hb1 c1 f1
 go_upto_if 17 with fail
 go_cut [] (fun wx => ∃ p2, p2.e = 0 ∧ ClsK w pb cv cs p l (decide (c = 94)) (.slice none 0 0) [] p2 wx ∧ p2.st l = if decide (c = 94) = true then stepI (p1.st l) else p1.st l)
 case first =>
  by_cases h94 : c = 94
  ·have e94 : (c == 94) = true := by simpa using h94
   have hlt := HNow.out (by omega)
   have hw2 := i_wrap (Nat.le_of_lt hlt) HLen.out
   have cb := blk_cell HC2.out.blk 4
   simp at cb
   have fb : w1.frozen? ⟨w.heap.size, 4, none⟩ = false := free_blk (i := 4) HC2.out.blk
   have HC3 := Lib.hid HC2.out.not
   have d1 := HC3.out.at_.cells.2.1
   have g1 := free_blk (i := 1) HC3.out.at_.blk
   have HC4 := Lib.hid (HC3.out.turn ((KTo.refl HC3.out.at_).step hlt))
   have HD : Hid (decide (c = 94) = true) := Lib.hid (decide_eq_true h94)
   clear hlt h94
   go_wp2_with fail
   go_meet
   exact ⟨{ p1 with i := p1.i + 1 }, HPe.out, by rw [HD.out]; exact HC4.out, by rw [HD.out]; rfl⟩
  ·have e94 : (c == 94) = false := by simpa using h94
   have HD : Hid (decide (c = 94) = false) := Lib.hid (decide_eq_false h94)
   clear h94
   go_wp2_with fail
   go_meet
   exact ⟨_, HPe.out, by rw [HD.out]; exact HC2.out, by rw [HD.out]; rfl⟩
 case rest =>
  obtain ⟨p2, hpe2, hCk, hst2⟩ := hcut
  have hres2 := HRes.out (decide (c = 94)) rfl
  rw [← hst2] at hres2
  have hp2i : 1 ≤ p2.i := by
   have h7 : (p2.st l).i = if decide (c = 94) = true then p1.i + 1 else p1.i := by rw [hst2]; split <;> rfl
   have h8 : p2.i = (p2.st l).i := rfl
   have := HPi.out
   rw [h8, h7]; split <;> omega
  have HP2i := Lib.hid hp2i
  generalize decide (c = 94) = but at *
  obtain ⟨tot, htt⟩ : ∃ tot, classL (codes cs) ((codes cs).length + 2) [] (p2.st l) = tot := ⟨_, rfl⟩
  have hres3 : res = classE but tot := by rw [← htt]; exact hres2
  have HRes := Lib.hid hres3
  rw [HCl.out] at htt
  have HTt := Lib.hid htt
  have HCk := Lib.hid hCk
  have HPe2 := Lib.hid hpe2
  clear hres2 hres3 htt hst2 hCk hp2i hpe2 HC2 HC1 HC0 HCall HNow
  go_wp2_with fail
  go_loopw [4] (fun _ wr => ∃ (n : Nat) (sv : Value) (acc : List Sp) (p' : Ps), (1 ≤ n ∧ (p'.e = 0 → cs.length + 2 ≤ p'.i + n)) ∧ classL (codes cs) n acc (p'.st l) = tot ∧ (p'.e = 0 → acc.length ≤ 4 * p'.i) ∧ ClsK w pb cv cs p l but sv acc p' wr) (fun _ wr => KM pb wr)
  case atStart => exact ⟨cs.length + 2, _, [], p2, ⟨by omega, fun _ => by omega⟩, HTt.out, fun _ => by simp, HCk.out⟩
  case round =>
   obtain ⟨n, sv, acc, p', ⟨hn1, hn2⟩, htot, hacc, hC⟩ := hrel
   have HC := Lib.hid hC
   have HAcc := Lib.hid hacc
   have HN := Lib.hid hn2
   have c9 := hC.at_.cells.2.2.2.2.2.1
   have cb := blk_cell hC.blk 3
   simp at cb
   cases n with
   | zero => omega
   | succ n =>
    have hbody : (if p'.e ≠ 0 then (none, p'.st l) else if rnF (codes cs) (p'.st l) = 93 ∧ acc ≠ [] then (some acc, stepI (p'.st l)) else classL (codes cs) n (acc ++ (itemR (codes cs) (p'.st l)).1) (itemR (codes cs) (p'.st l)).2) = tot := by rw [← htot]; rfl
    have HBody0 := Lib.hid hbody
    clear hbody htot hacc hn1 hn2
    by_cases he : p'.e = 0
    ·have hb9 : (p'.e == 0) = true := by simp [he]
     have HE0 := Lib.hid he
     have hb1 := HBody0.out
     rw [if_neg (fun g => g he)] at hb1
     have HBody1 := Lib.hid hb1
     have HCall := Lib.hid (k_now hC.at_)
     have hnow : rnF (codes cs) (p'.st l) ≠ -2 → p'.i < cs.length := fun e => (now_lt' e).2
     have HNow := Lib.hid hnow
     obtain ⟨As, cS, rfl⟩ := own_slice hC.own
     generalize hcc : rnF (codes cs) (p'.st l) = cc at *
     clear hb1 hnow he hC hcc
     by_cases h93 : cc = 93 ∧ acc ≠ []
     ·have e93 : (cc == 93) = true := by simpa using h93.1
      have hal : decide (0 < acc.length) = true := decide_eq_true (List.length_pos_iff.2 h93.2)
      have htt : tot = (some acc, stepI (p'.st l)) := by have := HBody1.out; rw [if_pos h93] at this; exact this.symm
      have HTot := Lib.hid htt
      have hlt := HNow.out (by rw [h93.1]; decide)
      have hw2 := i_wrap (Nat.le_of_lt hlt) HLen.out
      have HLt := Lib.hid hlt
      clear htt h93 hlt
      go_wp2_with fail
      refine HCall.out.mono ?_
      rintro e w3 ⟨rfl, hb3⟩
      have HC3 := Lib.hid (HC.out.below hb3)
      have cb := blk_cell HC3.out.blk 3
      simp at cb
      have d1 := HC3.out.at_.cells.2.1
      have g1 := free_blk (i := 1) HC3.out.at_.blk
      have HC4 := Lib.hid (HC3.out.turn ((KTo.refl HC3.out.at_).step HLt.out))
      have y0 := blk_cell HC4.out.blk 0
      have y1 := blk_cell HC4.out.blk 1
      have y2 := blk_cell HC4.out.blk 2
      have y3 := blk_cell HC4.out.blk 3
      have y4 := blk_cell HC4.out.blk 4
      simp at y0 y1 y2 y3 y4
      have hslc := HC4.out.slc
      have HAdd := Lib.hid (k_add ⟨0, 0, 0, .slice As acc.length cS, acc, but⟩ HC4.out.at_ hslc HNl.out)
      clear hb3 hslc
      go_wp2_with fail
      refine HAdd.out.mono ?_
      rintro e w5 ⟨rfl, v5, hK5, hA5⟩
      have HK5 := Lib.hid hK5
      have HA5 := Lib.hid ((HC4.out.apart.mono (Q := fun k => pb ≤ k) (fun k _ h => Nat.le_of_eq h.symm)).trans hA5 (fun _ _ h => h))
      clear hK5 hA5
      go_wp2_with fail
      go_ret
      have hfin : res = (((l.length : Nat) : Int), (({ p' with i := p'.i + 1, lv := v5 } : Ps)).st (l ++ [⟨0, 0, 0, .slice As acc.length cS, acc, but⟩])) := by
       rw [HRes.out, HTot.out]
       unfold classE addN Ps.st stepI
       simp [Nc.key]
      exact ⟨ret_int (by rw [hfin]), _, _, HK5.out, by rw [hfin], HA5.out⟩
     ·have hb2 := HBody1.out
      rw [if_neg h93] at hb2
      have HBody := Lib.hid hb2
      have hcs : (cc == 93) = false ∨ ((cc == 93) = true ∧ decide (0 < acc.length) = false) := by
       by_cases g : cc = 93
       ·refine .inr ⟨by simpa using g, ?_⟩
        have : acc = [] := Classical.byContradiction fun q => h93 ⟨g, q⟩
        rw [this]; rfl
       ·exact .inl (by simpa using g)
      clear hb2 h93
      rcases hcs with e93 | ⟨e93, hal⟩
      all_goals
       go_wp2_with fail
       refine HCall.out.mono ?_
       rintro e w3 ⟨rfl, hb3⟩
       have HC3 := Lib.hid (HC.out.below hb3)
       have cb := blk_cell HC3.out.blk 3
       simp at cb
       clear hb3
       go_wp2_with fail
       refine (k_single HC3.out.at_).mono ?_
       rintro e w4 ⟨gv, p4, rfl, hO, hT⟩
       have HC4 := Lib.hid (HC3.out.turn hT)
       have hst4 := hT.st
       have hgl := single_len (codes cs) (p'.st l)
       have hit : itemR (codes cs) (p'.st l) = if (singleR (codes cs) (p'.st l)).1.2 ≠ [] then ((singleR (codes cs) (p'.st l)).1.2, (singleR (codes cs) (p'.st l)).2) else if (singleR (codes cs) (p'.st l)).2.e = 0 ∧ rnF (codes cs) (singleR (codes cs) (p'.st l)).2 = 45 then ([⟨(singleR (codes cs) (p'.st l)).1.1, (lastR (codes cs) (singleR (codes cs) (p'.st l)).1.1 (stepI (singleR (codes cs) (p'.st l)).2)).1⟩], (lastR (codes cs) (singleR (codes cs) (p'.st l)).1.1 (stepI (singleR (codes cs) (p'.st l)).2)).2) else ([⟨(singleR (codes cs) (p'.st l)).1.1, (singleR (codes cs) (p'.st l)).1.1⟩], (singleR (codes cs) (p'.st l)).2) := rfl
       rw [← hst4] at hit
       clear hT hst4
       generalize (singleR (codes cs) (p'.st l)).1 = sr at *
       obtain ⟨lo, G⟩ := sr
       simp only at hO hgl hit ⊢
       have he4 : (p4.st l).e = p4.e := rfl
       rw [he4] at hit
       have HIt := Lib.hid hit
       have HO4 := Lib.hid hO
       have d9 := HC4.out.at_.cells.2.2.2.2.2.1
       clear hit he4
       by_cases hg : G = []
       ·subst hg
        have hit2 := HIt.out
        rw [if_neg (fun g => g rfl)] at hit2
        have HIt2 := Lib.hid hit2
        obtain ⟨Ag, cg, rfl⟩ := own_slice hO
        have hln : ([] : List Sp).length = 0 := rfl
        rw [hln]
        clear hit2 hO hgl HO4 hln
        by_cases he : p4.e = 0
        ·have hb4 : (p4.e == 0) = true := by simp [he]
         have HNow4 := Lib.hid (k_now HC4.out.at_)
         have hnl : rnF (codes cs) (p4.st l) ≠ -2 → p4.i < cs.length := fun e => (now_lt' e).2
         have HNl4 := Lib.hid hnl
         have HIt2 : Hid (itemR (codes cs) (p'.st l) = if rnF (codes cs) (p4.st l) = 45 then ([⟨lo, (lastR (codes cs) lo (stepI (p4.st l))).1⟩], (lastR (codes cs) lo (stepI (p4.st l))).2) else ([⟨lo, lo⟩], p4.st l)) := Lib.hid (by
          rw [HIt2.out]
          by_cases g : rnF (codes cs) (p4.st l) = 45
          ·rw [if_pos ⟨he, g⟩, if_pos g]
          ·rw [if_neg (fun q => g q.2), if_neg g])
         generalize rnF (codes cs) (p4.st l) = c4 at *
         clear hnl he
         go_wp2_with fail
         refine HNow4.out.mono ?_
         rintro e w6 ⟨rfl, hb6⟩
         have HC6 := Lib.hid (HC4.out.below hb6)
         clear hb6 d9
         by_cases h45 : c4 = 45
         ·have e45 : (c4 == 45) = true := by simpa using h45
          have hlt := HNl4.out (by omega)
          have hw4 := i_wrap (Nat.le_of_lt hlt) HLen.out
          have d1 := HC6.out.at_.cells.2.1
          have g1 := free_blk (i := 1) HC6.out.at_.blk
          have HC7 := Lib.hid (HC6.out.turn ((KTo.refl HC6.out.at_).step hlt))
          have hitem : itemR (codes cs) (p'.st l) = ([⟨lo, (lastR (codes cs) lo (stepI (p4.st l))).1⟩], (lastR (codes cs) lo (stepI (p4.st l))).2) := by rw [HIt2.out, if_pos h45]
          have HItem := Lib.hid hitem
          clear hlt h45 hitem
          go_wp2_with fail
          refine (k_last lo HC7.out.at_).mono ?_
          rintro e w8 ⟨p8, rfl, hT8⟩
          have HC8 := Lib.hid (HC7.out.turn hT8)
          have hst8 := hT8.st
          have hs7 : ({ p4 with i := p4.i + 1 } : Ps).st l = stepI (p4.st l) := rfl
          rw [hs7] at hst8
          rw [hs7]
          have hitem := HItem.out
          rw [← hst8] at hitem
          clear hT8 hst8 hs7 d1 g1
          generalize (lastR (codes cs) lo (stepI (p4.st l))).1 = hi8 at *
          have HGl : Hid (([⟨lo, hi8⟩] : List Sp).length ≤ 4) := Lib.hid (by show 1 ≤ 4; omega)
          have HCX := Lib.hid (HC8.out.below (balloc (Below.refl _ _) (.cells #[.int .i32 lo, .int .i32 hi8] 214)))
          have HSrc : Hid (SrcAt (w8.alloc (.cells #[.int .i32 lo, .int .i32 hi8] 214)) (.slice (some ⟨w8.heap.size, 0, none⟩) 1 1) 1 2 (([⟨lo, hi8⟩] : List Sp).flatMap Sp.enc)) := Lib.hid (ownR_src (ownR_one 0 (Nat.zero_le _)))
          have cb := blk_cell HCX.out.blk 3
          simp at cb
          have hfw := go_item (cs := codes cs) (st := p'.st l) (by simpa [codes, Ps.st] using HC.out.at_.hi)
          rw [hitem] at hfw
          have hfwd : (p8).e = 0 → p'.i + 1 ≤ (p8).i := fun g => (hfw.fwd g).2
          have HFwd2 := Lib.hid hfwd
          have htail : classL (codes cs) n (acc ++ ([⟨lo, hi8⟩] : List Sp)) ((p8).st l) = tot := by
           have h7 := HBody.out
           rw [hitem] at h7
           exact h7
          have HTail := Lib.hid htail
          have hnn : 1 ≤ n ∧ ((p8).e = 0 → cs.length + 2 ≤ (p8).i + n) := by
           have h8 := HN.out HE0.out
           have h9 := HC.out.at_.hi
           exact ⟨by omega, fun g => by have := hfwd g; omega⟩
          have HNn := Lib.hid hnn
          have hacc2 : (p8).e = 0 → (acc ++ ([⟨lo, hi8⟩] : List Sp)).length ≤ 4 * (p8).i := fun g => by rw [List.length_append]; have := HAcc.out HE0.out; have := hfwd g; have := HGl.out; omega
          have HAcc2 := Lib.hid hacc2
          have hlen : (acc.length + (([⟨lo, hi8⟩] : List Sp)).length) * 8 ≤ 140737488355328 := by have := HAcc.out HE0.out; have := HC.out.at_.hi; have := HC.out.at_.len; have := HGl.out; omega
          clear hfw hfwd htail hnn hacc2 hitem
          go_wp2_with (at_builtin; refine wpList_app2 (w0 := (w8.alloc (.cells #[.int .i32 lo, .int .i32 hi8] 214))) (w.heap.size + 1) rfl _ _ 181 214 _ 2 8 1 ((([⟨lo, hi8⟩] : List Sp)).flatMap Sp.enc) rfl Tryz.underlying181 info_rr rfl (by decide) (by decide) (.slice As acc.length cS) (.slice (some ⟨w8.heap.size, 0, none⟩) 1 1) acc.length (acc.flatMap Sp.enc) ?hs ?hxe ?hx HCX.out.own (Below.refl _ _) HCX.out.size hlen ?_)
          try case hs => rfl
          try case hxe => rfl
          case hx => exact HSrc.out
          intro v5 w5 hO5 hB5 hg5 hat5
          have HC5 := Lib.hid (HCX.out.push (g := ([⟨lo, hi8⟩] : List Sp)) (by simpa using hO5) hB5)
          obtain ⟨A5, c5, rfl⟩ := own_slice hO5
          have hb5 := (hB5.block w.heap.size (by have := HCX.out.size; omega)).trans HCX.out.blk
          have x3 := blk_cell hb5 3
          simp at x3
          have f3 : w5.frozen? ⟨w.heap.size, 3, none⟩ = false := free_blk (i := 3) hb5
          clear hO5 hB5 hg5 hat5 hb5 hlen
          go_wp2_with fail
          go_roundw
          case rel => exact ⟨n, _, acc ++ ([⟨lo, hi8⟩] : List Sp), p8, HNn.out, HTail.out, HAcc2.out, HC5.out⟩
          case measure => exact KM_lt HC.out.at_ HC5.out.at_ HE0.out HFwd2.out
         ·have e45 : (c4 == 45) = false := by simpa using h45
          have hitem : itemR (codes cs) (p'.st l) = ([⟨lo, lo⟩], p4.st l) := by rw [HIt2.out, if_neg h45]
          clear h45
          have HGl : Hid (([⟨lo, lo⟩] : List Sp).length ≤ 4) := Lib.hid (by show 1 ≤ 4; omega)
          have HCX := Lib.hid (HC6.out.below (balloc (Below.refl _ _) (.cells #[.int .i32 lo, .int .i32 lo] 214)))
          have HSrc : Hid (SrcAt (w6.alloc (.cells #[.int .i32 lo, .int .i32 lo] 214)) (.slice (some ⟨w6.heap.size, 0, none⟩) 1 1) 1 2 (([⟨lo, lo⟩] : List Sp).flatMap Sp.enc)) := Lib.hid (ownR_src (ownR_one 0 (Nat.zero_le _)))
          have cb := blk_cell HCX.out.blk 3
          simp at cb
          have hfw := go_item (cs := codes cs) (st := p'.st l) (by simpa [codes, Ps.st] using HC.out.at_.hi)
          rw [hitem] at hfw
          have hfwd : (p4).e = 0 → p'.i + 1 ≤ (p4).i := fun g => (hfw.fwd g).2
          have HFwd2 := Lib.hid hfwd
          have htail : classL (codes cs) n (acc ++ ([⟨lo, lo⟩] : List Sp)) ((p4).st l) = tot := by
           have h7 := HBody.out
           rw [hitem] at h7
           exact h7
          have HTail := Lib.hid htail
          have hnn : 1 ≤ n ∧ ((p4).e = 0 → cs.length + 2 ≤ (p4).i + n) := by
           have h8 := HN.out HE0.out
           have h9 := HC.out.at_.hi
           exact ⟨by omega, fun g => by have := hfwd g; omega⟩
          have HNn := Lib.hid hnn
          have hacc2 : (p4).e = 0 → (acc ++ ([⟨lo, lo⟩] : List Sp)).length ≤ 4 * (p4).i := fun g => by rw [List.length_append]; have := HAcc.out HE0.out; have := hfwd g; have := HGl.out; omega
          have HAcc2 := Lib.hid hacc2
          have hlen : (acc.length + (([⟨lo, lo⟩] : List Sp)).length) * 8 ≤ 140737488355328 := by have := HAcc.out HE0.out; have := HC.out.at_.hi; have := HC.out.at_.len; have := HGl.out; omega
          clear hfw hfwd htail hnn hacc2 hitem
          go_wp2_with (at_builtin; refine wpList_app2 (w0 := (w6.alloc (.cells #[.int .i32 lo, .int .i32 lo] 214))) (w.heap.size + 1) rfl _ _ 181 214 _ 2 8 1 ((([⟨lo, lo⟩] : List Sp)).flatMap Sp.enc) rfl Tryz.underlying181 info_rr rfl (by decide) (by decide) (.slice As acc.length cS) (.slice (some ⟨w6.heap.size, 0, none⟩) 1 1) acc.length (acc.flatMap Sp.enc) ?hs ?hxe ?hx HCX.out.own (Below.refl _ _) HCX.out.size hlen ?_)
          try case hs => rfl
          try case hxe => rfl
          case hx => exact HSrc.out
          intro v5 w5 hO5 hB5 hg5 hat5
          have HC5 := Lib.hid (HCX.out.push (g := ([⟨lo, lo⟩] : List Sp)) (by simpa using hO5) hB5)
          obtain ⟨A5, c5, rfl⟩ := own_slice hO5
          have hb5 := (hB5.block w.heap.size (by have := HCX.out.size; omega)).trans HCX.out.blk
          have x3 := blk_cell hb5 3
          simp at x3
          have f3 : w5.frozen? ⟨w.heap.size, 3, none⟩ = false := free_blk (i := 3) hb5
          clear hO5 hB5 hg5 hat5 hb5 hlen
          go_wp2_with fail
          go_roundw
          case rel => exact ⟨n, _, acc ++ ([⟨lo, lo⟩] : List Sp), p4, HNn.out, HTail.out, HAcc2.out, HC5.out⟩
          case measure => exact KM_lt HC.out.at_ HC5.out.at_ HE0.out HFwd2.out
        ·have hb4 : (p4.e == 0) = false := by simp [he]
         have hitem : itemR (codes cs) (p'.st l) = ([⟨lo, lo⟩], p4.st l) := by rw [HIt2.out, if_neg (fun q => he q.1)]
         clear he
         have HGl : Hid (([⟨lo, lo⟩] : List Sp).length ≤ 4) := Lib.hid (by show 1 ≤ 4; omega)
         have HCX := Lib.hid (HC4.out.below (balloc (Below.refl _ _) (.cells #[.int .i32 lo, .int .i32 lo] 214)))
         have HSrc : Hid (SrcAt (w4.alloc (.cells #[.int .i32 lo, .int .i32 lo] 214)) (.slice (some ⟨w4.heap.size, 0, none⟩) 1 1) 1 2 (([⟨lo, lo⟩] : List Sp).flatMap Sp.enc)) := Lib.hid (ownR_src (ownR_one 0 (Nat.zero_le _)))
         have cb := blk_cell HCX.out.blk 3
         simp at cb
         have hfw := go_item (cs := codes cs) (st := p'.st l) (by simpa [codes, Ps.st] using HC.out.at_.hi)
         rw [hitem] at hfw
         have hfwd : (p4).e = 0 → p'.i + 1 ≤ (p4).i := fun g => (hfw.fwd g).2
         have HFwd2 := Lib.hid hfwd
         have htail : classL (codes cs) n (acc ++ ([⟨lo, lo⟩] : List Sp)) ((p4).st l) = tot := by
          have h7 := HBody.out
          rw [hitem] at h7
          exact h7
         have HTail := Lib.hid htail
         have hnn : 1 ≤ n ∧ ((p4).e = 0 → cs.length + 2 ≤ (p4).i + n) := by
          have h8 := HN.out HE0.out
          have h9 := HC.out.at_.hi
          exact ⟨by omega, fun g => by have := hfwd g; omega⟩
         have HNn := Lib.hid hnn
         have hacc2 : (p4).e = 0 → (acc ++ ([⟨lo, lo⟩] : List Sp)).length ≤ 4 * (p4).i := fun g => by rw [List.length_append]; have := HAcc.out HE0.out; have := hfwd g; have := HGl.out; omega
         have HAcc2 := Lib.hid hacc2
         have hlen : (acc.length + (([⟨lo, lo⟩] : List Sp)).length) * 8 ≤ 140737488355328 := by have := HAcc.out HE0.out; have := HC.out.at_.hi; have := HC.out.at_.len; have := HGl.out; omega
         clear hfw hfwd htail hnn hacc2 hitem
         go_wp2_with (at_builtin; refine wpList_app2 (w0 := (w4.alloc (.cells #[.int .i32 lo, .int .i32 lo] 214))) (w.heap.size + 1) rfl _ _ 181 214 _ 2 8 1 ((([⟨lo, lo⟩] : List Sp)).flatMap Sp.enc) rfl Tryz.underlying181 info_rr rfl (by decide) (by decide) (.slice As acc.length cS) (.slice (some ⟨w4.heap.size, 0, none⟩) 1 1) acc.length (acc.flatMap Sp.enc) ?hs ?hxe ?hx HCX.out.own (Below.refl _ _) HCX.out.size hlen ?_)
         try case hs => rfl
         try case hxe => rfl
         case hx => exact HSrc.out
         intro v5 w5 hO5 hB5 hg5 hat5
         have HC5 := Lib.hid (HCX.out.push (g := ([⟨lo, lo⟩] : List Sp)) (by simpa using hO5) hB5)
         obtain ⟨A5, c5, rfl⟩ := own_slice hO5
         have hb5 := (hB5.block w.heap.size (by have := HCX.out.size; omega)).trans HCX.out.blk
         have x3 := blk_cell hb5 3
         simp at x3
         have f3 : w5.frozen? ⟨w.heap.size, 3, none⟩ = false := free_blk (i := 3) hb5
         clear hO5 hB5 hg5 hat5 hb5 hlen
         go_wp2_with fail
         go_roundw
         case rel => exact ⟨n, _, acc ++ ([⟨lo, lo⟩] : List Sp), p4, HNn.out, HTail.out, HAcc2.out, HC5.out⟩
         case measure => exact KM_lt HC.out.at_ HC5.out.at_ HE0.out HFwd2.out
       ·have hitem : itemR (codes cs) (p'.st l) = (G, p4.st l) := by rw [HIt.out, if_pos hg]
        obtain ⟨Ag, cg, rfl⟩ := own_slice hO
        have hng : G.length ≠ 0 := fun e => hg (List.length_eq_zero_iff.1 e)
        have HGl := Lib.hid hgl
        have HSrc := Lib.hid (ownR_src HO4.out)
        have HCX := Lib.hid HC4.out
        have cb := blk_cell HC4.out.blk 3
        simp at cb
        have hce : (p4.e == 0) = true ∨ (p4.e == 0) = false := by cases (p4.e == 0) <;> simp
        obtain ⟨ng, hng2⟩ : ∃ ng, G.length = ng := ⟨_, rfl⟩
        have HNg := Lib.hid hng2
        rw [hng2] at hng HSrc ⊢
        have hgn : (ng == 0) = false := by simpa using hng
        have hgn2 : ((ng : Int) == 0) = false := by simpa using hng
        clear hO hg hgl hng hng2
        rcases hce with hb4 | hb4
        all_goals
         have hfw := go_item (cs := codes cs) (st := p'.st l) (by simpa [codes, Ps.st] using HC.out.at_.hi)
         rw [hitem] at hfw
         have hfwd : (p4).e = 0 → p'.i + 1 ≤ (p4).i := fun g => (hfw.fwd g).2
         have HFwd2 := Lib.hid hfwd
         have htail : classL (codes cs) n (acc ++ G) ((p4).st l) = tot := by
          have h7 := HBody.out
          rw [hitem] at h7
          exact h7
         have HTail := Lib.hid htail
         have hnn : 1 ≤ n ∧ ((p4).e = 0 → cs.length + 2 ≤ (p4).i + n) := by
          have h8 := HN.out HE0.out
          have h9 := HC.out.at_.hi
          exact ⟨by omega, fun g => by have := hfwd g; omega⟩
         have HNn := Lib.hid hnn
         have hacc2 : (p4).e = 0 → (acc ++ G).length ≤ 4 * (p4).i := fun g => by rw [List.length_append]; have := HAcc.out HE0.out; have := hfwd g; have := HGl.out; omega
         have HAcc2 := Lib.hid hacc2
         have hlen : (acc.length + ng) * 8 ≤ 140737488355328 := by have := HNg.out; have := HAcc.out HE0.out; have := HC.out.at_.hi; have := HC.out.at_.len; have := HGl.out; omega
         clear hfw hfwd htail hnn hacc2 hitem
         go_wp2_with (at_builtin; refine wpList_app2 (w0 := w4) (w.heap.size + 1) rfl _ _ 181 214 _ 2 8 ng ((G).flatMap Sp.enc) rfl Tryz.underlying181 info_rr rfl (by decide) (by decide) (.slice As acc.length cS) (.slice Ag ng cg) acc.length (acc.flatMap Sp.enc) ?hs ?hxe ?hx HCX.out.own (Below.refl _ _) HCX.out.size hlen ?_)
         try case hs => rfl
         try case hxe => rfl
         case hx => exact HSrc.out
         intro v5 w5 hO5 hB5 hg5 hat5
         have HC5 := Lib.hid (HCX.out.push (g := G) (by rw [HNg.out]; simpa using hO5) hB5)
         obtain ⟨A5, c5, rfl⟩ := own_slice hO5
         have hb5 := (hB5.block w.heap.size (by have := HCX.out.size; omega)).trans HCX.out.blk
         have x3 := blk_cell hb5 3
         simp at x3
         have f3 : w5.frozen? ⟨w.heap.size, 3, none⟩ = false := free_blk (i := 3) hb5
         clear hO5 hB5 hg5 hat5 hb5 hlen
         go_wp2_with fail
         go_roundw
         case rel => exact ⟨n, _, acc ++ G, p4, HNn.out, HTail.out, HAcc2.out, HC5.out⟩
         case measure => exact KM_lt HC.out.at_ HC5.out.at_ HE0.out HFwd2.out
    ·have hb9 : (p'.e == 0) = false := by simp [he]
     have htt : tot = (none, p'.st l) := by have := HBody0.out; rw [if_pos he] at this; exact this.symm
     have hfin : res = (0, p'.st l) := by rw [HRes.out, htt]; rfl
     have HFin := Lib.hid hfin
     clear hfin htt he hC cb
     go_wp2_with fail
     go_ret
     rw [HFin.out]
     exact ⟨rfl, _, _, HC.out.at_, rfl, HC.out.apart.mono (fun k _ h => Nat.le_of_eq h.symm)⟩
end Go.Proofs.YtlhmdgaohonpbaaGreatDoor
