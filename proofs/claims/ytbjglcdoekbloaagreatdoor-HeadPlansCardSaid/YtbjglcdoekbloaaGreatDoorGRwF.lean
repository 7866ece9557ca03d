import Derived.Test.YtbjglcdoekbloaaGreatDoorGRwD
import Derived.Test.YtbjglcdoekbloaaGreatDoorGRwC
import Derived.Test.YtbjglcdoekbloaaGreatDoorGRwE
set_option linter.unusedSimpArgs false
set_option linter.unusedVariables false
set_option linter.unusedSectionVars false
/- the law's Few, records. -/
namespace Go.Proofs.YtbjglcdoekbloaaGreatDoor
open Go.RowKit Go.Proofs.YtbjglcdoekbloaaGreatDoor.MapRaw Go.ChangeMaps

def fewB (s : Sr) : Bool := decide (200 < s.pts.length) || bigF s.lab
def fewF (l : List Sr) : Bool := !(l.any fewB) && decide (l.length ≤ 60)
set_option maxRecDepth 100000 in
set_option maxHeartbeats 1000000 in
theorem law_few {D D' : Nat → Prop} (v : Value) (l : List Sr) (w : World) (hv : Slc 3 Sr.enc w D v l) (hl : SrOk w D' l) (hz : ∀ x ∈ l, SzL x.lab) :
    Calls Tryz.prog 8 #[v] w fun e w' => e = .returned (.bool (fewF l)) ∧ Below w.heap.size w w' := by
  obtain ⟨A, c, rfl, p1, p2, p3, p4, p5⟩ := hv
  have HR := Lib.hid p5
  have HL := Lib.hid hl
  have HZ := Lib.hid hz
  have hm : l.length ≤ 9223372036854775807 := by simp only [maxLen] at p2; omega
  have hpf : fewF l = (!(l.any fewB) && decide ((l.length : Int) ≤ 60)) := by unfold fewF; congr 1; simp; omega
  have HP := Lib.hid hpf
  obtain ⟨n, hn⟩ : ∃ n, n = l.length := ⟨_, rfl⟩
  have Hn := Lib.hid hn
  rw [← hn] at hm HP ⊢
  clear p1 p2 p3 p4 p5 hl hz hn hpf
  go_enter Tryz.func8, Tryz.ntmps8
  go_wp2
  go_loopw [7] (fun i wr => ∃ k : Nat, k ≤ n ∧ i = .int .i64 k ∧ AnyTo fewB l k ∧ Below w.heap.size w wr) (fun i _ => n - (intOf i).toNat)
  case atStart => exact ⟨0, Nat.zero_le _, rfl, AnyTo.start _ _, Below.refl _ _⟩
  case round =>
    obtain ⟨k, hk, rfl, hE, hB⟩ := hrel
    by_cases hlt : k < n
    · have hkl : k < l.length := by rw [← Hn.out]; exact hlt
      obtain ⟨b, off, rfl, z0, z1, z2⟩ := rdSr_at (Rd.below HR.out hB) hkl
      have hx := HL.out _ (List.getElem_mem hkl)
      have hzx := HZ.out _ (List.getElem_mem hkl)
      have hRd := hE.round hkl
      generalize l[k] = x at *
      obtain ⟨zr, zlv, lab, zpv, pts⟩ := x
      simp only at z0 z1 z2 hx hzx hRd
      have hbig := fun (W : World) (hW : Below w.heap.size w W) => law_big _ _ W (hx.1.below hW) hzx
      obtain ⟨⟨A2, c2, rfl, -⟩, ⟨A3, c3, rfl, -⟩⟩ := hx
      have HBig := Lib.hid hbig
      have HBr := Lib.hid hB
      have HBw : Hid (Below wr.heap.size wr (wr.alloc (.cells #[.int .u32 zr, .slice A2 lab.length c2, .slice A3 pts.length c3] 66))) := Lib.hid (balloc (Below.refl _ _) _)
      have hfb : fewB ⟨zr, .slice A2 lab.length c2, lab, .slice A3 pts.length c3, pts⟩ = (decide ((200 : Int) < (pts.length : Int)) || bigF lab) := by unfold fewB; congr 1; simp; omega
      rw [hfb] at hRd
      generalize pts.length = n3 at *
      generalize lab.length = n2 at *
      clear hE hB hbig hfb hzx
      rcases hRd with ⟨g1, g2⟩ | ⟨g1, g2⟩
      · have hres : fewF l = false := by rw [HP.out, g2]; rfl
        have HRes := Lib.hid hres
        by_cases hp : (200 : Int) < (n3 : Int)
        · have hd : decide ((200 : Int) < (n3 : Int)) = true := decide_eq_true hp
          clear g1 g2 hres
          go_wp2_with fail
          go_ret
          exact ⟨ret_bool HRes.out.symm, bthen HBr.out HBw.out⟩
        · have hd : decide ((200 : Int) < (n3 : Int)) = false := decide_eq_false hp
          rw [hd, Bool.false_or] at g1
          rw [g1] at HBig
          clear g1 g2 hres
          go_wp2_with fail
          refine (HBig.out _ (bthen HBr.out HBw.out)).mono ?_
          rintro e w1 ⟨rfl, hb⟩
          have HB1 := Lib.hid (bthen (bthen HBr.out HBw.out) hb)
          clear hb
          go_wp2_with fail
          go_ret
          exact ⟨ret_bool HRes.out.symm, HB1.out⟩
      · have hd : decide ((200 : Int) < (n3 : Int)) = false := by cases h : decide ((200 : Int) < (n3 : Int)) with
          | false => rfl
          | true => rw [h] at g1; cases g1
        rw [hd, Bool.false_or] at g1
        rw [g1] at HBig
        have G2 := Lib.hid g2
        clear g1 g2
        go_wp2_with fail
        refine (HBig.out _ (bthen HBr.out HBw.out)).mono ?_
        rintro e w1 ⟨rfl, hb⟩
        have HB1 := Lib.hid (bthen (bthen HBr.out HBw.out) hb)
        clear hb
        go_wp2_with fail
        go_roundw
        case rel => exact ⟨k + 1, by omega, by go_num, G2.out, HB1.out⟩
        case measure => simp [intOf] <;> omega
    · have hEd := hE.done (by rw [← Hn.out]; exact hlt)
      have hres : fewF l = decide ((n : Int) ≤ 60) := by rw [HP.out, hEd]; rfl
      have HRes := Lib.hid hres
      have HBr := Lib.hid hB
      clear hE hB hEd hres
      go_wp2_with fail
      go_ret
      exact ⟨ret_bool HRes.out.symm, HBr.out⟩
end Go.Proofs.YtbjglcdoekbloaaGreatDoor

/- the law's begun, same. -/
namespace Go.Proofs.YtbjglcdoekbloaaGreatDoor
open Go.RowKit Go.Proofs.YtbjglcdoekbloaaGreatDoor.MapRaw Go.ChangeMaps

theorem pr_begun {w w2 w3 : World} {X : List Nat} {o : HLoc} {H : Hd} {K : List Ky} {xp : Nat} {v : Value} {l : List Sr} (hM : Mine w X o H w2) (hR : RNew w2 xp v l w3) (hk : l.map Sr.key = K) (ho : OfH H K) : Pr w o.hp xp H K o (X ++ xp :: ownL v) v l w3 := by
  have hlt : ∀ k ∈ X, k < w2.heap.size := fun k hk => hM.head.inn.ix.lt k hk
  have hown := fun k hk => ownsRow_blk hR.own k hk
  have hxp := hR.xp
  have hxl : xp < w3.heap.size := (Array.getElem?_eq_some_iff.1 hR.hc).1
  have hnew : ∀ k ∈ X ++ xp :: ownL v, k ∈ X ∨ w2.heap.size ≤ k := fun k hk => by
    rcases List.mem_append.1 hk with hk | hk
    · exact .inl hk
    · rcases List.mem_cons.1 hk with rfl | hk
      · exact .inr hxp
      · exact .inr (hown k (ownL_mem.1 hk)).1
  refine ⟨hM.head.step (P := fun _ => False) (below_apart hR.below _) (fun _ h => h.elim) (fun _ _ h => h) (fun k hk => List.mem_append_left _ hk) (fun k hk hX hm => ?_) (fun k hk => ?_), rfl, ⟨hR.hc, ⟨_, hR.own⟩, fun j hj => ⟨List.mem_append_right _ (List.mem_cons_of_mem _ (ownL_mem.2 hj)), fun e => hR.ne (e ▸ hj)⟩, List.mem_append_right _ (List.mem_cons_self ..), hR.ok.mono (fun k hk hD hm => ?_)⟩, hk, ho, fun k hk hm => ?_, fun k hk => ?_, bthen hM.below hR.below⟩
  · exact (hnew k hm).elim hX (fun h => by omega)
  · rcases List.mem_append.1 hk with hk | hk
    · exact Nat.lt_of_lt_of_le (hlt k hk) hR.below.size
    · rcases List.mem_cons.1 hk with rfl | hk
      · exact hxl
      · exact (hown k (ownL_mem.1 hk)).2
  · rcases List.mem_append.1 hm with hm | hm
    · have := hlt k hm; omega
    · rcases List.mem_cons.1 hm with rfl | hm
      · exact hD.2 rfl
      · exact hD.1.2 (ownL_mem.1 hm).symm
  · have h1 := hlt k (hM.head.inn.bsub k hm)
    rcases hk with rfl | hk
    · omega
    · have := (hown k hk).1; omega
  · exact (hnew k hk).elim (hM.new k) (fun h => Nat.le_trans hM.below.size h)
def BegunPost (w : World) (K : List Ky) (e : Ending) (w' : World) : Prop :=
  (e = .returned (.tuple #[.pointer none, .pointer none, .bool true]) ∧ Below w.heap.size w w') ∨ (RightK K ∧ ∃ xp o X v l, e = .returned (.tuple #[.pointer (some ⟨o.hp, 0, none⟩), .pointer (some ⟨xp, 0, none⟩), .bool true]) ∧ Pr w o.hp xp (ofF K) K o X v l w')
set_option maxRecDepth 100000 in
set_option maxHeartbeats 2000000 in
theorem law_begun {D : Nat → Prop} (v : Value) (l : List Sr) (w : World) (hv : Slc 3 Sr.enc w D v l) (hl : SrOk w D l) (hz : ∀ x ∈ l, SzL x.lab) (hu : ∀ x ∈ l, U32 x.ref) (hn9 : l.length ≤ 1000000) (h6 : ∀ x ∈ l, x.lab.length ≤ 1000000 ∧ x.pts.length ≤ 1000000) (hT : Tabs w) (h2 : 2 ≤ w.heap.size) :
    Calls Tryz.prog 10 #[v] w (BegunPost w (l.map Sr.key)) := by
  have hcp := ref14_copied v l w hv hl hn9 h6
  have hro := fun (W : World) (hW : Below w.heap.size w W) => ref14_of v l W (hv.below hW) (hl.below hW) hz hn9 h6
  have hho := fun (v2 : Value) (l2 : List Sr) (W : World) (hS : SrTo w w.heap.size v2 l2 W) (hk : l2.map Sr.key = l.map Sr.key) => head_of (D := fun _ => True) v2 l2 W ((own_slc sr_len rfl hS.own).mono (fun _ _ _ => trivial)) (hS.ok.mono (fun _ _ _ => trivial)) (fun x hx => by
      obtain ⟨y, hy, e⟩ := List.mem_map.1 (show x.key ∈ l.map Sr.key by rw [← hk]; exact List.mem_map_of_mem hx)
      have : y.lab = x.lab := congrArg (fun k => k.2.1) e
      rw [← this]; exact hz y hy) (fun x hx => by
      obtain ⟨y, hy, e⟩ := List.mem_map.1 (show x.key ∈ l.map Sr.key by rw [← hk]; exact List.mem_map_of_mem hx)
      have : y.ref = x.ref := congrArg (fun k => k.1) e
      rw [← this]; exact hu y hy) (hT.below hS.below h2) (Nat.le_trans h2 hS.below.size)
  have huk : ∀ k ∈ l.map Sr.key, k.1 < 4294967296 := fun k hk => by
    obtain ⟨x, hx, rfl⟩ := List.mem_map.1 hk
    exact (hu x hx).2
  have HCp := Lib.hid hcp
  have HRo := Lib.hid hro
  have HHo := Lib.hid hho
  have HUk := Lib.hid huk
  obtain ⟨A, c, rfl, -⟩ := hv
  generalize l.length = n at *
  generalize l.map Sr.key = K at *
  clear hcp hro hho huk hl hz hu h6 hT h2 hn9
  go_enter Tryz.func10, Tryz.ntmps10
  go_wp2_with fail
  refine HCp.out.mono ?_
  rintro e w1 ⟨v1, l1, rfl, hS, hk1⟩
  have hho := HHo.out v1 l1 w1 hS hk1
  rw [hk1] at hho
  have HB1 := Lib.hid hS.below
  have HHo1 := Lib.hid hho
  obtain ⟨A1, c1, rfl⟩ := own_slice hS.own
  generalize l1.length = n1 at *
  clear hS hk1 hho HHo
  go_wp2_with fail
  refine HHo1.out.mono ?_
  rintro e w2 (⟨h0, rfl, hb⟩ | ⟨h0, o, X, rfl, hM⟩)
  · have HB2 := Lib.hid (bthen HB1.out hb)
    have H0 := Lib.hid h0
    clear hb h0
    go_wp2_with fail
    refine (HRo.out _ HB2.out).mono ?_
    rintro e w3 (⟨h0, rfl, hb⟩ | ⟨h0, -⟩)
    · have HB3 := Lib.hid (bthen HB2.out hb)
      clear hb h0
      generalize rightS K = q at *
      go_wp2_with fail
      go_ret3
      exact .inl ⟨rfl, HB3.out⟩
    · exact (H0.out h0).elim
  · have HM := Lib.hid hM
    have H0 := Lib.hid h0
    have HB2 := Lib.hid (bthen HB1.out hM.below)
    clear hM h0
    go_wp2_with fail
    refine (HRo.out _ HB2.out).mono ?_
    rintro e w3 (⟨h0, -⟩ | ⟨h0, xp, v3, l3, rfl, hR, hk3⟩)
    · exact (h0 H0.out).elim
    · have hmine : Mine w X o (ofF K) w2 := ⟨HM.out.head, fun k hk => Nat.le_trans HB1.out.size (HM.out.new k hk), HB2.out⟩
      have hfin := pr_begun hmine hR hk3 (of_all (rightS_zero h0) HUk.out)
      have HF : Hid (BegunPost w K (.returned (.tuple #[.pointer (some ⟨o.hp, 0, none⟩), .pointer (some ⟨xp, 0, none⟩), .bool true])) w3) := Lib.hid (.inr ⟨rightS_zero h0, xp, o, _, v3, l3, rfl, hfin⟩)
      clear hR hk3 hmine hfin h0
      go_wp2_with fail
      go_ret3
      exact HF.out
theorem sumK_eq (l : List Sr) : sumK l l.length = ((l.map Sr.key).map fun k => k.2.2.length).sum := by
  unfold sumK; rw [List.take_length, List.map_map]; rfl
theorem pts_len3 {H : Hd} {L : List Ky} (h : OfH H L) : H.pts.length = L.length := by
  have h1 := (keys_perm h.inv).length_eq
  simp only [List.length_map] at h1
  rw [h1, h.len]
set_option maxRecDepth 100000 in
set_option maxHeartbeats 2000000 in
theorem law_same {w0 : World} {hp xp : Nat} {H : Hd} {L : List Ky} {o : HLoc} {X : List Nat} {v : Value} {l : List Sr} (w : World) (h : Pr w0 hp xp H L o X v l w) (hn : L.length ≤ 4096) :
    Calls Tryz.prog 14 #[.pointer (some ⟨hp, 0, none⟩), .pointer (some ⟨xp, 0, none⟩)] w fun e w' => e = .returned (.bool true) ∧ Below w.heap.size w w' := by
  have hpl : H.pts.length ≤ 1000000 := by rw [pts_len3 h.of]; omega
  have hll : l.length = L.length := by rw [← h.keys, List.length_map]
  have h65 : ∀ x ∈ l, x.pts.length ≤ 65536 := fun x hx => (rightP_rising (h.of.right x.key (by rw [← h.keys]; exact List.mem_map_of_mem hx)).1).2
  have hcnt := head_count w h.head hpl
  rw [h.hp] at hcnt
  unfold CountPost at hcnt
  rw [h.of.len, h.of.cnt] at hcnt
  have c0 := blk_cell h.ref.hc 0
  simp at c0
  have hrc := fun (W : World) (hW : Below w.heap.size w W) => ref14_count xp v l W (later hW c0) (h.ref.slc.below hW) (h.ref.ok.below hW) (by omega) h65
  rw [sumK_eq, h.keys, hll] at hrc
  have hall := fun (W : World) (hW : Below w.heap.size w W) => head_all W (h.head.below hW) hpl
  rw [h.hp] at hall
  unfold AllPost at hall
  rw [h.of.all] at hall
  have HCnt := Lib.hid hcnt
  have HRc := Lib.hid hrc
  have HAll := Lib.hid hall
  have HP := Lib.hid h
  have hslc := h.ref.slc
  have HSlc := Lib.hid hslc
  obtain ⟨A, c, rfl, -⟩ := hslc
  generalize L.length = n at *
  generalize (L.map fun k => k.2.2.length).sum = q at *
  clear hcnt hrc hall hpl h65 h hll
  go_enter Tryz.func14, Tryz.ntmps14
  go_wp2_with fail
  refine HCnt.out.mono ?_
  rintro e w1 ⟨rfl, hb1⟩
  have HB1 := Lib.hid hb1
  go_wp2_with fail
  refine (HRc.out _ hb1).mono ?_
  rintro e w2 ⟨rfl, hb2⟩
  have HB2 := Lib.hid (bthen hb1 hb2)
  have f0 : w2.drew.cell? ⟨xp, 0, none⟩ = some (.slice A l.length c) := later HB2.out c0
  clear hb1 hb2 c0
  go_wp2_with fail
  go_region_held3 (fun w' => w'.cell? ⟨xp, 0, none⟩ = some (.slice A l.length c)) (first | exact f0 | exact later hb3 f0 | exact later (bthen hb3 hb4) f0)
    (first | (go_at_call 22; refine (HAll.out _ (bthen HB2.out (bdrew (Below.refl _ _)))).mono ?_; rintro e w3 ⟨v3, l3, rfl, hs3, ho3, hk3, hb3⟩) | (go_at_call 26; refine (ref14_same (D := fun _ => True) (D' := fun _ => True) _ _ l3 l _ (hs3.mono (fun _ _ _ => trivial)) ((HSlc.out.below (bthen HB2.out (bthen (bdrew (Below.refl _ _)) hb3))).mono (fun _ _ _ => trivial)) (ho3.mono (fun _ _ _ => trivial)) ((HP.out.ref.ok.below (bthen HB2.out (bthen (bdrew (Below.refl _ _)) hb3))).mono (fun _ _ _ => trivial)) (by rw [hk3, HP.out.keys])).mono ?_; rintro e w4 ⟨rfl, hb4⟩))
  have HB4 := Lib.hid (bthen HB2.out (bthen (bdrew (Below.refl _ _)) (bthen hb3 hb4)))
  clear hb3 hb4 f0 hs3 ho3 hk3
  go_wp2_with fail
  go_ret
  exact ⟨rfl, HB4.out⟩
end Go.Proofs.YtbjglcdoekbloaaGreatDoor
