import Derived.Test.YtfjlballemibjaaDoorGRwD
import Derived.Test.YtfjlballemibjaaDoorGRwC
import Derived.Test.YtfjlballemibjaaDoorGRwE
set_option linter.unusedSimpArgs false
set_option linter.unusedVariables false
set_option linter.unusedSectionVars false
/- the law's Few, records. -/
namespace Go.Proofs.YtfjlballemibjaaDoor
open Go.RowKit Go.Proofs.YtfjlballemibjaaDoor.MapRaw Go.ChangeMaps

def fewB (s : Sr) : Bool := decide (200 < s.pts.length) || bigF s.lab
def fewF (l : List Sr) : Bool := !(l.any fewB) && decide (l.length ≤ 60)
def recB (x : RecV) : Bool := decide (300 < x.r.pts.length) || bigF x.r.lab
def recsF (l : List RecV) : Bool := !(l.any recB) && decide (l.length ≤ 60)
set_option maxRecDepth 100000 in
set_option maxHeartbeats 1000000 in
theorem law_few {D D' : Nat → Prop} (v : Value) (l : List Sr) (w : World) (hv : Slc 3 Sr.enc w D v l) (hl : SrOk w D' l) (hz : ∀ x ∈ l, SzL x.lab) :
    Calls Tryd.prog 19 #[v] w fun e w' => e = .returned (.bool (fewF l)) ∧ Below w.heap.size w w' := by
  obtain ⟨A, c, rfl, p1, p2, p3, p4, p5⟩ := hv
  have HR := Lib.hid p5
  have HL := Lib.hid hl
  have HZ := Lib.hid hz
  have hm : l.length ≤ 9223372036854775807 := by simp only [maxLen] at p2; omega
  have hpf : fewF l = (!(l.any fewB) && decide ((l.length : Int) ≤ 60)) := by unfold fewF; congr 1; simp; omega
  have HP := Lib.hid hpf
  obtain ⟨n, hn⟩ : ∃ n, n = l.length := ⟨_, rfl⟩
  have Hn := Lib.hid hn
  rw [← hn] at hm HP ⊢
  clear p1 p2 p3 p4 p5 hl hz hn hpf
  go_enter Tryd.func19, Tryd.ntmps19
  go_wp2
  go_loopw [7] (fun i wr => ∃ k : Nat, k ≤ n ∧ i = .int .i64 k ∧ AnyTo fewB l k ∧ Below w.heap.size w wr) (fun i _ => n - (intOf i).toNat)
  case atStart => exact ⟨0, Nat.zero_le _, rfl, AnyTo.start _ _, Below.refl _ _⟩
  case round =>
    obtain ⟨k, hk, rfl, hE, hB⟩ := hrel
    by_cases hlt : k < n
    · have hkl : k < l.length := by rw [← Hn.out]; exact hlt
      obtain ⟨b, off, rfl, z0, z1, z2⟩ := rdSr_at (Rd.below HR.out hB) hkl
      have hx := HL.out _ (List.getElem_mem hkl)
      have hzx := HZ.out _ (List.getElem_mem hkl)
      have hRd := hE.round hkl
      generalize l[k] = x at *
      obtain ⟨zr, zlv, lab, zpv, pts⟩ := x
      simp only at z0 z1 z2 hx hzx hRd
      have hbig := fun (W : World) (hW : Below w.heap.size w W) => law_big _ _ W (hx.1.below hW) hzx
      obtain ⟨⟨A2, c2, rfl, -⟩, ⟨A3, c3, rfl, -⟩⟩ := hx
      have HBig := Lib.hid hbig
      have HBr := Lib.hid hB
      have HBw : Hid (Below wr.heap.size wr (wr.alloc (.cells #[.int .u32 zr, .slice A2 lab.length c2, .slice A3 pts.length c3] 51))) := Lib.hid (balloc (Below.refl _ _) _)
      have hfb : fewB ⟨zr, .slice A2 lab.length c2, lab, .slice A3 pts.length c3, pts⟩ = (decide ((200 : Int) < (pts.length : Int)) || bigF lab) := by unfold fewB; congr 1; simp; omega
      rw [hfb] at hRd
      generalize pts.length = n3 at *
      generalize lab.length = n2 at *
      clear hE hB hbig hfb hzx
      rcases hRd with ⟨g1, g2⟩ | ⟨g1, g2⟩
      · have hres : fewF l = false := by rw [HP.out, g2]; rfl
        have HRes := Lib.hid hres
        by_cases hp : (200 : Int) < (n3 : Int)
        · have hd : decide ((200 : Int) < (n3 : Int)) = true := decide_eq_true hp
          clear g1 g2 hres
          go_wp2_with fail
          go_ret
          exact ⟨ret_bool HRes.out.symm, bthen HBr.out HBw.out⟩
        · have hd : decide ((200 : Int) < (n3 : Int)) = false := decide_eq_false hp
          rw [hd, Bool.false_or] at g1
          rw [g1] at HBig
          clear g1 g2 hres
          go_wp2_with fail
          refine (HBig.out _ (bthen HBr.out HBw.out)).mono ?_
          rintro e w1 ⟨rfl, hb⟩
          have HB1 := Lib.hid (bthen (bthen HBr.out HBw.out) hb)
          clear hb
          go_wp2_with fail
          go_ret
          exact ⟨ret_bool HRes.out.symm, HB1.out⟩
      · have hd : decide ((200 : Int) < (n3 : Int)) = false := by cases h : decide ((200 : Int) < (n3 : Int)) with
          | false => rfl
          | true => rw [h] at g1; cases g1
        rw [hd, Bool.false_or] at g1
        rw [g1] at HBig
        have G2 := Lib.hid g2
        clear g1 g2
        go_wp2_with fail
        refine (HBig.out _ (bthen HBr.out HBw.out)).mono ?_
        rintro e w1 ⟨rfl, hb⟩
        have HB1 := Lib.hid (bthen (bthen HBr.out HBw.out) hb)
        clear hb
        go_wp2_with fail
        go_roundw
        case rel => exact ⟨k + 1, by omega, by go_num, G2.out, HB1.out⟩
        case measure => simp [intOf] <;> omega
    · have hEd := hE.done (by rw [← Hn.out]; exact hlt)
      have hres : fewF l = decide ((n : Int) ≤ 60) := by rw [HP.out, hEd]; rfl
      have HRes := Lib.hid hres
      have HBr := Lib.hid hB
      clear hE hB hEd hres
      go_wp2_with fail
      go_ret
      exact ⟨ret_bool HRes.out.symm, HBr.out⟩
set_option maxRecDepth 100000 in
set_option maxHeartbeats 1000000 in
theorem law_records {D D' : Nat → Prop} (v : Value) (l : List RecV) (w : World) (hv : Slc 4 RecV.enc w D v l) (hl : RecOk w D' l) (hz : ∀ x ∈ l, SzL x.r.lab) :
    Calls Tryd.prog 20 #[v] w fun e w' => e = .returned (.bool (recsF l)) ∧ Below w.heap.size w w' := by
  obtain ⟨A, c, rfl, p1, p2, p3, p4, p5⟩ := hv
  have HR := Lib.hid p5
  have HL := Lib.hid hl
  have HZ := Lib.hid hz
  have hm : l.length ≤ 9223372036854775807 := by simp only [maxLen] at p2; omega
  have hpf : recsF l = (!(l.any recB) && decide ((l.length : Int) ≤ 60)) := by unfold recsF; congr 1; simp; omega
  have HP := Lib.hid hpf
  obtain ⟨n, hn⟩ : ∃ n, n = l.length := ⟨_, rfl⟩
  have Hn := Lib.hid hn
  rw [← hn] at hm HP ⊢
  clear p1 p2 p3 p4 p5 hl hz hn hpf
  go_enter Tryd.func20, Tryd.ntmps20
  go_wp2
  go_loopw [7] (fun i wr => ∃ k : Nat, k ≤ n ∧ i = .int .i64 k ∧ AnyTo recB l k ∧ Below w.heap.size w wr) (fun i _ => n - (intOf i).toNat)
  case atStart => exact ⟨0, Nat.zero_le _, rfl, AnyTo.start _ _, Below.refl _ _⟩
  case round =>
    obtain ⟨k, hk, rfl, hE, hB⟩ := hrel
    by_cases hlt : k < n
    · have hkl : k < l.length := by rw [← Hn.out]; exact hlt
      obtain ⟨b, off, rfl, z0, z1, z2, z3⟩ := rdR_at (Rd.below HR.out hB) hkl
      have hx := HL.out _ (List.getElem_mem hkl)
      have hzx := HZ.out _ (List.getElem_mem hkl)
      have hRd := hE.round hkl
      generalize l[k] = x at *
      obtain ⟨⟨rk, rr, lab, pts⟩, zlv, zpv⟩ := x
      simp only at z0 z1 z2 z3 hx hzx hRd
      have hbig := fun (W : World) (hW : Below w.heap.size w W) => law_big _ _ W (hx.1.below hW) hzx
      obtain ⟨⟨A2, c2, rfl, -⟩, ⟨A3, c3, rfl, -⟩⟩ := hx
      have HBig := Lib.hid hbig
      have HBr := Lib.hid hB
      have HBw : Hid (Below wr.heap.size wr (wr.alloc (.cells #[.int .i64 rk, .int .u32 rr, .slice A2 lab.length c2, .slice A3 pts.length c3] 62))) := Lib.hid (balloc (Below.refl _ _) _)
      have hfb : recB ⟨⟨rk, rr, lab, pts⟩, .slice A2 lab.length c2, .slice A3 pts.length c3⟩ = (decide ((300 : Int) < (pts.length : Int)) || bigF lab) := by unfold recB; congr 1; simp; omega
      rw [hfb] at hRd
      generalize pts.length = n3 at *
      generalize lab.length = n2 at *
      clear hE hB hbig hfb hzx
      rcases hRd with ⟨g1, g2⟩ | ⟨g1, g2⟩
      · have hres : recsF l = false := by rw [HP.out, g2]; rfl
        have HRes := Lib.hid hres
        by_cases hp : (300 : Int) < (n3 : Int)
        · have hd : decide ((300 : Int) < (n3 : Int)) = true := decide_eq_true hp
          clear g1 g2 hres
          go_wp2_with fail
          go_ret
          exact ⟨ret_bool HRes.out.symm, bthen HBr.out HBw.out⟩
        · have hd : decide ((300 : Int) < (n3 : Int)) = false := decide_eq_false hp
          rw [hd, Bool.false_or] at g1
          rw [g1] at HBig
          clear g1 g2 hres
          go_wp2_with fail
          refine (HBig.out _ (bthen HBr.out HBw.out)).mono ?_
          rintro e w1 ⟨rfl, hb⟩
          have HB1 := Lib.hid (bthen (bthen HBr.out HBw.out) hb)
          clear hb
          go_wp2_with fail
          go_ret
          exact ⟨ret_bool HRes.out.symm, HB1.out⟩
      · have hd : decide ((300 : Int) < (n3 : Int)) = false := by cases h : decide ((300 : Int) < (n3 : Int)) with
          | false => rfl
          | true => rw [h] at g1; cases g1
        rw [hd, Bool.false_or] at g1
        rw [g1] at HBig
        have G2 := Lib.hid g2
        clear g1 g2
        go_wp2_with fail
        refine (HBig.out _ (bthen HBr.out HBw.out)).mono ?_
        rintro e w1 ⟨rfl, hb⟩
        have HB1 := Lib.hid (bthen (bthen HBr.out HBw.out) hb)
        clear hb
        go_wp2_with fail
        go_roundw
        case rel => exact ⟨k + 1, by omega, by go_num, G2.out, HB1.out⟩
        case measure => simp [intOf] <;> omega
    · have hEd := hE.done (by rw [← Hn.out]; exact hlt)
      have hres : recsF l = decide ((n : Int) ≤ 60) := by rw [HP.out, hEd]; rfl
      have HRes := Lib.hid hres
      have HBr := Lib.hid hB
      clear hE hB hEd hres
      go_wp2_with fail
      go_ret
      exact ⟨ret_bool HRes.out.symm, HBr.out⟩
end Go.Proofs.YtfjlballemibjaaDoor

/- the law's begun, same. -/
namespace Go.Proofs.YtfjlballemibjaaDoor
open Go.RowKit Go.Proofs.YtfjlballemibjaaDoor.MapRaw Go.ChangeMaps

theorem pr_begun {w w2 w3 : World} {X : List Nat} {o : HLoc} {H : Hd} {K : List Ky} {xp : Nat} {v : Value} {l : List Sr} (hM : Mine w X o H w2) (hR : RNew w2 xp v l w3) (hk : l.map Sr.key = K) (ho : OfH H K) : Pr w o.hp xp H K o (X ++ xp :: ownL v) v l w3 := by
  have hlt : ∀ k ∈ X, k < w2.heap.size := fun k hk => hM.head.inn.ix.lt k hk
  have hown := fun k hk => ownsRow_blk hR.own k hk
  have hxp := hR.xp
  have hxl : xp < w3.heap.size := (Array.getElem?_eq_some_iff.1 hR.hc).1
  have hnew : ∀ k ∈ X ++ xp :: ownL v, k ∈ X ∨ w2.heap.size ≤ k := fun k hk => by
    rcases List.mem_append.1 hk with hk | hk
    · exact .inl hk
    · rcases List.mem_cons.1 hk with rfl | hk
      · exact .inr hxp
      · exact .inr (hown k (ownL_mem.1 hk)).1
  refine ⟨hM.head.step (P := fun _ => False) (below_apart hR.below _) (fun _ h => h.elim) (fun _ _ h => h) (fun k hk => List.mem_append_left _ hk) (fun k hk hX hm => ?_) (fun k hk => ?_), rfl, ⟨hR.hc, ⟨_, hR.own⟩, fun j hj => ⟨List.mem_append_right _ (List.mem_cons_of_mem _ (ownL_mem.2 hj)), fun e => hR.ne (e ▸ hj)⟩, List.mem_append_right _ (List.mem_cons_self ..), hR.ok.mono (fun k hk hD hm => ?_)⟩, hk, ho, fun k hk hm => ?_, fun k hk => ?_, bthen hM.below hR.below⟩
  · exact (hnew k hm).elim hX (fun h => by omega)
  · rcases List.mem_append.1 hk with hk | hk
    · exact Nat.lt_of_lt_of_le (hlt k hk) hR.below.size
    · rcases List.mem_cons.1 hk with rfl | hk
      · exact hxl
      · exact (hown k (ownL_mem.1 hk)).2
  · rcases List.mem_append.1 hm with hm | hm
    · have := hlt k hm; omega
    · rcases List.mem_cons.1 hm with rfl | hm
      · exact hD.2 rfl
      · exact hD.1.2 (ownL_mem.1 hm).symm
  · have h1 := hlt k (hM.head.inn.bsub k hm)
    rcases hk with rfl | hk
    · omega
    · have := (hown k hk).1; omega
  · exact (hnew k hk).elim (hM.new k) (fun h => Nat.le_trans hM.below.size h)
def BegunPost (w : World) (K : List Ky) (e : Ending) (w' : World) : Prop :=
  (e = .returned (.tuple #[.pointer none, .pointer none, .bool true]) ∧ Below w.heap.size w w') ∨ (RightK K ∧ ∃ xp o X v l, e = .returned (.tuple #[.pointer (some ⟨o.hp, 0, none⟩), .pointer (some ⟨xp, 0, none⟩), .bool true]) ∧ Pr w o.hp xp (ofF K) K o X v l w')
set_option maxRecDepth 100000 in
set_option maxHeartbeats 2000000 in
theorem law_begun {D : Nat → Prop} (v : Value) (l : List Sr) (w : World) (hv : Slc 3 Sr.enc w D v l) (hl : SrOk w D l) (hz : ∀ x ∈ l, SzL x.lab) (hu : ∀ x ∈ l, U32 x.ref) (hn9 : l.length ≤ 1000000) (h6 : ∀ x ∈ l, x.lab.length ≤ 1000000 ∧ x.pts.length ≤ 1000000) (hT : Tabs w) (h2 : 2 ≤ w.heap.size) :
    Calls Tryd.prog 22 #[v] w (BegunPost w (l.map Sr.key)) := by
  have hcp := ref14_copied v l w hv hl hn9 h6
  have hro := fun (W : World) (hW : Below w.heap.size w W) => ref14_of v l W (hv.below hW) (hl.below hW) hz hn9 h6
  have hho := fun (v2 : Value) (l2 : List Sr) (W : World) (hS : SrTo w w.heap.size v2 l2 W) (hk : l2.map Sr.key = l.map Sr.key) => head_of (D := fun _ => True) v2 l2 W ((own_slc sr_len rfl hS.own).mono (fun _ _ _ => trivial)) (hS.ok.mono (fun _ _ _ => trivial)) (fun x hx => by
      obtain ⟨y, hy, e⟩ := List.mem_map.1 (show x.key ∈ l.map Sr.key by rw [← hk]; exact List.mem_map_of_mem hx)
      have : y.lab = x.lab := congrArg (fun k => k.2.1) e
      rw [← this]; exact hz y hy) (fun x hx => by
      obtain ⟨y, hy, e⟩ := List.mem_map.1 (show x.key ∈ l.map Sr.key by rw [← hk]; exact List.mem_map_of_mem hx)
      have : y.ref = x.ref := congrArg (fun k => k.1) e
      rw [← this]; exact hu y hy) (hT.below hS.below h2) (Nat.le_trans h2 hS.below.size)
  have huk : ∀ k ∈ l.map Sr.key, k.1 < 4294967296 := fun k hk => by
    obtain ⟨x, hx, rfl⟩ := List.mem_map.1 hk
    exact (hu x hx).2
  have HCp := Lib.hid hcp
  have HRo := Lib.hid hro
  have HHo := Lib.hid hho
  have HUk := Lib.hid huk
  obtain ⟨A, c, rfl, -⟩ := hv
  generalize l.length = n at *
  generalize l.map Sr.key = K at *
  clear hcp hro hho huk hl hz hu h6 hT h2 hn9
  go_enter Tryd.func22, Tryd.ntmps22
  go_wp2_with fail
  refine HCp.out.mono ?_
  rintro e w1 ⟨v1, l1, rfl, hS, hk1⟩
  have hho := HHo.out v1 l1 w1 hS hk1
  rw [hk1] at hho
  have HB1 := Lib.hid hS.below
  have HHo1 := Lib.hid hho
  obtain ⟨A1, c1, rfl⟩ := own_slice hS.own
  generalize l1.length = n1 at *
  clear hS hk1 hho HHo
  go_wp2_with fail
  refine HHo1.out.mono ?_
  rintro e w2 (⟨h0, rfl, hb⟩ | ⟨h0, o, X, rfl, hM⟩)
  · have HB2 := Lib.hid (bthen HB1.out hb)
    have H0 := Lib.hid h0
    clear hb h0
    go_wp2_with fail
    refine (HRo.out _ HB2.out).mono ?_
    rintro e w3 (⟨h0, rfl, hb⟩ | ⟨h0, -⟩)
    · have HB3 := Lib.hid (bthen HB2.out hb)
      clear hb h0
      generalize rightS K = q at *
      go_wp2_with fail
      go_ret3
      exact .inl ⟨rfl, HB3.out⟩
    · exact (H0.out h0).elim
  · have HM := Lib.hid hM
    have H0 := Lib.hid h0
    have HB2 := Lib.hid (bthen HB1.out hM.below)
    clear hM h0
    go_wp2_with fail
    refine (HRo.out _ HB2.out).mono ?_
    rintro e w3 (⟨h0, -⟩ | ⟨h0, xp, v3, l3, rfl, hR, hk3⟩)
    · exact (h0 H0.out).elim
    · have hmine : Mine w X o (ofF K) w2 := ⟨HM.out.head, fun k hk => Nat.le_trans HB1.out.size (HM.out.new k hk), HB2.out⟩
      have hfin := pr_begun hmine hR hk3 (of_all (rightS_zero h0) HUk.out)
      have HF : Hid (BegunPost w K (.returned (.tuple #[.pointer (some ⟨o.hp, 0, none⟩), .pointer (some ⟨xp, 0, none⟩), .bool true])) w3) := Lib.hid (.inr ⟨rightS_zero h0, xp, o, _, v3, l3, rfl, hfin⟩)
      clear hR hk3 hmine hfin h0
      go_wp2_with fail
      go_ret3
      exact HF.out
theorem sumK_eq (l : List Sr) : sumK l l.length = ((l.map Sr.key).map fun k => k.2.2.length).sum := by
  unfold sumK; rw [List.take_length, List.map_map]; rfl
theorem pts_len3 {H : Hd} {L : List Ky} (h : OfH H L) : H.pts.length = L.length := by
  have h1 := (keys_perm h.inv).length_eq
  simp only [List.length_map] at h1
  rw [h1, h.len]
set_option maxRecDepth 100000 in
set_option maxHeartbeats 2000000 in
theorem law_same {w0 : World} {hp xp : Nat} {H : Hd} {L : List Ky} {o : HLoc} {X : List Nat} {v : Value} {l : List Sr} (w : World) (h : Pr w0 hp xp H L o X v l w) (hn : L.length ≤ 4096) :
    Calls Tryd.prog 24 #[.pointer (some ⟨hp, 0, none⟩), .pointer (some ⟨xp, 0, none⟩)] w fun e w' => e = .returned (.bool true) ∧ Below w.heap.size w w' := by
  have hpl : H.pts.length ≤ 1000000 := by rw [pts_len3 h.of]; omega
  have hll : l.length = L.length := by rw [← h.keys, List.length_map]
  have h65 : ∀ x ∈ l, x.pts.length ≤ 65536 := fun x hx => (rightP_rising (h.of.right x.key (by rw [← h.keys]; exact List.mem_map_of_mem hx)).1).2
  have hcnt := head_count w h.head hpl
  rw [h.hp] at hcnt
  unfold CountPost at hcnt
  rw [h.of.len, h.of.cnt] at hcnt
  have c0 := blk_cell h.ref.hc 0
  simp at c0
  have hrc := fun (W : World) (hW : Below w.heap.size w W) => ref14_count xp v l W (later hW c0) (h.ref.slc.below hW) (h.ref.ok.below hW) (by omega) h65
  rw [sumK_eq, h.keys, hll] at hrc
  have hall := fun (W : World) (hW : Below w.heap.size w W) => head_all W (h.head.below hW) hpl
  rw [h.hp] at hall
  unfold AllPost at hall
  rw [h.of.all] at hall
  have HCnt := Lib.hid hcnt
  have HRc := Lib.hid hrc
  have HAll := Lib.hid hall
  have HP := Lib.hid h
  have hslc := h.ref.slc
  have HSlc := Lib.hid hslc
  obtain ⟨A, c, rfl, -⟩ := hslc
  generalize L.length = n at *
  generalize (L.map fun k => k.2.2.length).sum = q at *
  clear hcnt hrc hall hpl h65 h hll
  go_enter Tryd.func24, Tryd.ntmps24
  go_wp2_with fail
  refine HCnt.out.mono ?_
  rintro e w1 ⟨rfl, hb1⟩
  have HB1 := Lib.hid hb1
  go_wp2_with fail
  refine (HRc.out _ hb1).mono ?_
  rintro e w2 ⟨rfl, hb2⟩
  have HB2 := Lib.hid (bthen hb1 hb2)
  have f0 : w2.drew.cell? ⟨xp, 0, none⟩ = some (.slice A l.length c) := later HB2.out c0
  clear hb1 hb2 c0
  go_wp2_with fail
  go_region_held3 (fun w' => w'.cell? ⟨xp, 0, none⟩ = some (.slice A l.length c)) (first | exact f0 | exact later hb3 f0 | exact later (bthen hb3 hb4) f0)
    (first | (go_at_call 13; refine (HAll.out _ (bthen HB2.out (bdrew (Below.refl _ _)))).mono ?_; rintro e w3 ⟨v3, l3, rfl, hs3, ho3, hk3, hb3⟩) | (go_at_call 18; refine (ref14_same (D := fun _ => True) (D' := fun _ => True) _ _ l3 l _ (hs3.mono (fun _ _ _ => trivial)) ((HSlc.out.below (bthen HB2.out (bthen (bdrew (Below.refl _ _)) hb3))).mono (fun _ _ _ => trivial)) (ho3.mono (fun _ _ _ => trivial)) ((HP.out.ref.ok.below (bthen HB2.out (bthen (bdrew (Below.refl _ _)) hb3))).mono (fun _ _ _ => trivial)) (by rw [hk3, HP.out.keys])).mono ?_; rintro e w4 ⟨rfl, hb4⟩))
  have HB4 := Lib.hid (bthen HB2.out (bthen (bdrew (Below.refl _ _)) (bthen hb3 hb4)))
  clear hb3 hb4 f0 hs3 ho3 hk3
  go_wp2_with fail
  go_ret
  exact ⟨rfl, HB4.out⟩
end Go.Proofs.YtfjlballemibjaaDoor

/- the law HeadRecords: it returns true. -/
namespace Go.Proofs.YtfjlballemibjaaDoor
open Go.RowKit Go.Proofs.YtfjlballemibjaaDoor.MapRaw Go.ChangeMaps

theorem get_find {H : Hd} {L : List Ky} {l : List Sr} (h : OfH H L) (hk : l.map Sr.key = L) (q : List Lb) :
    (getF H q = none ∧ l.findIdx? (labB q) = none) ∨ ∃ i, ∃ hi : i < l.length, l.findIdx? (labB q) = some i ∧ getF H q = some l[i].pts := by
  cases hf : l.findIdx? (labB q) with
  | none =>
    left
    refine ⟨?_, rfl⟩
    cases hg : getF H q with
    | none => rfl
    | some lp =>
      obtain ⟨k, hkm, e1, -⟩ := (h.get q lp).1 hg
      rw [← hk] at hkm
      obtain ⟨x, hx, rfl⟩ := List.mem_map.1 hkm
      have := List.findIdx?_eq_none_iff.1 hf x hx
      have e2 : x.lab = q := e1
      simp [labB, e2] at this
  | some i =>
    right
    obtain ⟨hi, h2, _⟩ := List.findIdx?_eq_some_iff_getElem.1 hf
    have h3 : l[i].lab = q := by simpa [labB] using h2
    exact ⟨i, hi, rfl, (h.get q _).2 ⟨l[i].key, by rw [← hk]; exact List.mem_map_of_mem (List.getElem_mem hi), h3, rfl⟩⟩
/-- where the law's loop stands -/
structure LawAt (w : World) (hp xp : Nat) (wr : World) : Prop where
  ex : ∃ H L o X v l, Pr w hp xp H L o X v l wr ∧ L.length ≤ 4096
theorem pr_rk {H : Hd} {L : List Ky} (h : OfH H L) : RK L := ⟨h.rise, fun k hk => (h.right k hk).1⟩
theorem old_out {α : Type} {sz : Nat} {enc : α → List Value} {w wr : World} {D : Nat → Prop} {X : List Nat} {v : Value} {l : List α} (h : Slc sz enc w D v l) (hb : Below w.heap.size w wr) (hX : ∀ k ∈ X, w.heap.size ≤ k) : Slc sz enc wr (fun k => k ∉ X) v l :=
  Slc.mono (Slc.below (Slc.mono (D' := fun k => k < w.heap.size) h (fun k hk _ => hk)) hb) (fun k _ hk hm => by have := hX k hm; omega)
set_option maxRecDepth 100000 in
set_option maxHeartbeats 2000000 in
theorem law_recs {D : Nat → Prop} (sv rv qv : Value) (l : List Sr) (rl : List RecV) (q : List Lb) (w : World) (hsv : Slc 3 Sr.enc w D sv l) (hl : SrOk w D l) (hz : ∀ x ∈ l, SzL x.lab) (hu : ∀ x ∈ l, U32 x.ref) (hrv : Slc 4 RecV.enc w D rv rl) (hrl : RecOk w D rl) (hfit : ∀ x ∈ rl, RecFit x.r) (hqv : SlL w D qv q) (hqz : SzL q) (hT : Tabs w) (h2 : 2 ≤ w.heap.size) :
    Calls Tryd.prog 6 #[sv, rv, qv] w fun e w' => e = .returned (.bool true) ∧ Below w.heap.size w w' := by
  have hlive := fun (W : World) (hW : Below w.heap.size w W) => law_live W (hT.below hW h2) (Nat.le_trans h2 hW.size)
  have hfew := fun (W : World) (hW : Below w.heap.size w W) => law_few sv l W (hsv.below hW) (hl.below hW) hz
  have hrecs := fun (W : World) (hW : Below w.heap.size w W) => law_records rv rl W (hrv.below hW) (hrl.belo hW) (fun x hx => (hfit x hx).2.1)
  have hbig := fun (W : World) (hW : Below w.heap.size w W) => law_big qv q W (hqv.below hW) hqz
  have HLive := Lib.hid hlive
  have HFew := Lib.hid hfew
  have HRecs := Lib.hid hrecs
  have HBig := Lib.hid hbig
  have HSv := Lib.hid hsv
  have HL := Lib.hid hl
  have HZ := Lib.hid hz
  have HU := Lib.hid hu
  have HRv := Lib.hid hrv
  have HRl := Lib.hid hrl
  have HFit := Lib.hid hfit
  have HQv := Lib.hid hqv
  have HQz := Lib.hid hqz
  have HT := Lib.hid hT
  obtain ⟨A, c, rfl, -⟩ := hsv
  obtain ⟨A1, c1, rfl, q1, q2, -, -, p5⟩ := hrv
  have hn9 : rl.length ≤ 9223372036854775807 := by simp only [maxLen] at q2; omega
  obtain ⟨A2, c2, rfl, -⟩ := hqv
  have HRr := Lib.hid p5
  obtain ⟨m, hmm⟩ : ∃ m, m = l.length := ⟨_, rfl⟩
  obtain ⟨n, hnn⟩ : ∃ n, n = rl.length := ⟨_, rfl⟩
  have Hn := Lib.hid hnn
  rw [← hmm] at HFew ⊢
  rw [← hnn] at HRecs hn9 ⊢
  have Hm := Lib.hid hmm
  generalize q.length = n2 at *
  clear hlive hfew hrecs hbig hl hz hu hrl hfit hqz hT p5 q1 q2 hmm hnn
  cases hf : fewF l with
  | false =>
    rw [hf] at HFew
    clear hf
    go_enter Tryd.func6, Tryd.ntmps6
    go_wp2_with fail
    refine (HLive.out _ (Below.refl _ _)).mono ?_
    rintro e w1 ⟨rfl, hb1⟩
    go_wp2_with fail
    refine (HFew.out _ hb1).mono ?_
    rintro e w2 ⟨rfl, hb2⟩
    have HB2 := Lib.hid (bthen hb1 hb2)
    clear hb1 hb2
    go_wp2_with fail
    refine (HLive.out _ HB2.out).mono ?_
    rintro e w3 ⟨rfl, hb3⟩
    have HB3 := Lib.hid (bthen HB2.out hb3)
    clear hb3
    go_wp2_with fail
    go_ret
    exact ⟨rfl, HB3.out⟩
  | true =>
    have HFw := Lib.hid hf
    rw [hf] at HFew
    clear hf
    cases hf : recsF rl with
    | false =>
      rw [hf] at HRecs
      clear hf
      go_enter Tryd.func6, Tryd.ntmps6
      go_wp2_with fail
      refine (HLive.out _ (Below.refl _ _)).mono ?_
      rintro e w1 ⟨rfl, hb1⟩
      go_wp2_with fail
      refine (HFew.out _ hb1).mono ?_
      rintro e w2 ⟨rfl, hb2⟩
      have HB2 := Lib.hid (bthen hb1 hb2)
      clear hb1 hb2
      go_wp2_with fail
      refine (HRecs.out _ HB2.out).mono ?_
      rintro e w3 ⟨rfl, hb3⟩
      have HB3 := Lib.hid (bthen HB2.out hb3)
      clear hb3
      go_wp2_with fail
      refine (HLive.out _ HB3.out).mono ?_
      rintro e w4 ⟨rfl, hb4⟩
      have HB4 := Lib.hid (bthen HB3.out hb4)
      clear hb4
      go_wp2_with fail
      go_ret
      exact ⟨rfl, HB4.out⟩
    | true =>
      rw [hf] at HRecs
      clear hf
      cases hf : bigF q with
      | true =>
        rw [hf] at HBig
        clear hf
        go_enter Tryd.func6, Tryd.ntmps6
        go_wp2_with fail
        refine (HLive.out _ (Below.refl _ _)).mono ?_
        rintro e w1 ⟨rfl, hb1⟩
        go_wp2_with fail
        refine (HFew.out _ hb1).mono ?_
        rintro e w2 ⟨rfl, hb2⟩
        have HB2 := Lib.hid (bthen hb1 hb2)
        clear hb1 hb2
        go_wp2_with fail
        refine (HRecs.out _ HB2.out).mono ?_
        rintro e w3 ⟨rfl, hb3⟩
        have HB3 := Lib.hid (bthen HB2.out hb3)
        clear hb3
        go_wp2_with fail
        refine (HBig.out _ HB3.out).mono ?_
        rintro e w4 ⟨rfl, hb4⟩
        have HB4 := Lib.hid (bthen HB3.out hb4)
        clear hb4
        go_wp2_with fail
        refine (HLive.out _ HB4.out).mono ?_
        rintro e w5 ⟨rfl, hb5⟩
        have HB5 := Lib.hid (bthen HB4.out hb5)
        clear hb5
        go_wp2_with fail
        go_ret
        exact ⟨rfl, HB5.out⟩
      | false =>
        rw [hf] at HBig
        clear hf
        have hsm : l.length ≤ 60 ∧ ∀ x ∈ l, x.lab.length ≤ 30 ∧ x.pts.length ≤ 200 := by
          have h1 := HFw.out
          unfold fewF at h1
          simp only [Bool.and_eq_true, Bool.not_eq_true', decide_eq_true_eq] at h1
          refine ⟨h1.2, fun x hx => ?_⟩
          have h3 := List.any_eq_false.1 h1.1 x hx
          unfold fewB bigF at h3
          simp only [Bool.or_eq_true, decide_eq_true_eq, not_or] at h3
          omega
        have hbeg := fun (W : World) (hW : Below w.heap.size w W) => law_begun (D := D) _ l W (HSv.out.below hW) (HL.out.below hW) HZ.out HU.out (by omega) (fun x hx => by have := hsm.2 x hx; omega) (HT.out.below hW h2) (Nat.le_trans h2 hW.size)
        rw [← Hm.out] at hbeg
        unfold BegunPost at hbeg
        have HBeg := Lib.hid hbeg
        clear hsm hbeg
        go_enter Tryd.func6, Tryd.ntmps6
        go_wp2_with fail
        refine (HLive.out _ (Below.refl _ _)).mono ?_
        rintro e w1 ⟨rfl, hb1⟩
        go_wp2_with fail
        refine (HFew.out _ hb1).mono ?_
        rintro e w2 ⟨rfl, hb2⟩
        have HB2 := Lib.hid (bthen hb1 hb2)
        clear hb1 hb2
        go_wp2_with fail
        refine (HRecs.out _ HB2.out).mono ?_
        rintro e w3 ⟨rfl, hb3⟩
        have HB3 := Lib.hid (bthen HB2.out hb3)
        clear hb3
        go_wp2_with fail
        refine (HBig.out _ HB3.out).mono ?_
        rintro e w4 ⟨rfl, hb4⟩
        have HB4 := Lib.hid (bthen HB3.out hb4)
        clear hb4
        go_wp2_with fail
        refine (HBeg.out _ HB4.out).mono ?_
        rintro e w5 (⟨rfl, hb5⟩ | ⟨hRK, xp, o0, X0, v0, l0, rfl, hP⟩)
        · have HB5 := Lib.hid (bthen HB4.out hb5)
          clear hb5
          go_wp2_with fail
          go_ret
          exact ⟨rfl, HB5.out⟩
        · have HW4 := Lib.hid HB4.out.size
          have hP0 : Pr w o0.hp xp (ofF (l.map Sr.key)) (l.map Sr.key) o0 X0 v0 l0 w5 := ⟨hP.head, hP.hp, hP.ref, hP.keys, hP.of, hP.sep, fun k hk => Nat.le_trans HW4.out (hP.new k hk), bthen HB4.out hP.below⟩
          have HS0 : Hid (LawAt w o0.hp xp w5) := Lib.hid ⟨_, _, _, _, _, _, hP0, by have := hRK.len; exact this⟩
          clear hRK hP hP0
          generalize o0.hp = hp at *
          go_wp2_with fail
          go_loopw [47] (fun i wr => ∃ k : Nat, k ≤ n ∧ i = .int .i64 k ∧ LawAt w hp xp wr) (fun i _ => n - (intOf i).toNat)
          case atStart => exact ⟨0, Nat.zero_le _, rfl, HS0.out⟩
          case round =>
            obtain ⟨k, hk, rfl, hE⟩ := hrel
            obtain ⟨H, L, o, X, v, ls, hP, hL4⟩ := hE
            by_cases hlt : k < n
            · have hkl : k < rl.length := by rw [← Hn.out]; exact hlt
              obtain ⟨b, off, rfl, z0, z1, z2, z3⟩ := rdR_at (Rd.below HRr.out hP.below) hkl
              have hx := HRl.out _ (List.getElem_mem hkl)
              have hxf := HFit.out _ (List.getElem_mem hkl)
              generalize rl[k] = y at *
              obtain ⟨⟨rk, rr, lab, pts⟩, ylv, ypv⟩ := y
              simp only at z0 z1 z2 z3 hx
              obtain ⟨H', hrec, hof⟩ := rec_same hP.of ⟨rk, rr, lab, pts⟩ hxf.1
              have HD1 := Lib.hid hx.1
              have HD2 := Lib.hid hx.2
              obtain ⟨⟨A4, c4, rfl, -⟩, ⟨A5, c5, rfl, -⟩⟩ := hx
              have HBw : Hid (Below wr.heap.size wr (wr.alloc (.cells #[.int .i64 rk, .int .u32 rr, .slice A4 lab.length c4, .slice A5 pts.length c5] 62))) := Lib.hid (balloc (Below.refl _ _) _)
              have v0 : (wr.alloc (.cells #[.int .i64 rk, .int .u32 rr, .slice A4 lab.length c4, .slice A5 pts.length c5] 62)).cell? ⟨wr.heap.size, 0, none⟩ = some (.int .i64 rk) := by simp
              have v1 : (wr.alloc (.cells #[.int .i64 rk, .int .u32 rr, .slice A4 lab.length c4, .slice A5 pts.length c5] 62)).cell? ⟨wr.heap.size, 1, none⟩ = some (.int .u32 rr) := by simp
              have v2 : (wr.alloc (.cells #[.int .i64 rk, .int .u32 rr, .slice A4 lab.length c4, .slice A5 pts.length c5] 62)).cell? ⟨wr.heap.size, 2, none⟩ = some (.slice A4 lab.length c4) := by simp
              have v3 : (wr.alloc (.cells #[.int .i64 rk, .int .u32 rr, .slice A4 lab.length c4, .slice A5 pts.length c5] 62)).cell? ⟨wr.heap.size, 3, none⟩ = some (.slice A5 pts.length c5) := by simp
              have hsz : wr.heap.size < (wr.alloc (.cells #[.int .i64 rk, .int .u32 rr, .slice A4 lab.length c4, .slice A5 pts.length c5] 62)).heap.size := by simp
              have hltX : ∀ k ∈ X, k < wr.heap.size := fun k hk => hP.head.inn.ix.lt k hk
              have HLtX := Lib.hid hltX
              have HPw := Lib.hid (hP.then HBw.out)
              have hlen := rec_len (r := ⟨rk, rr, lab, pts⟩) hL4
              have HLen := Lib.hid hlen
              have HL4 := Lib.hid hL4
              have HOf := Lib.hid hof
              have HXf := Lib.hid hxf
              have hcallA := fun (W : World) (hW : Pr w hp xp H L o X v ls W) => head_record (X := X) (o := o) (H := H) ⟨rk, rr, lab, pts⟩ (.slice A4 lab.length c4) (.slice A5 pts.length c5) W hW.head (old_out HD1.out hW.below hW.new) (old_out HD2.out hW.below hW.new) HXf.out.2.1 (HT.out.below hW.below h2) (Nat.le_trans h2 hW.below.size) HXf.out.1 HXf.out.2.2
              rw [hrec] at hcallA
              have hpo := hP.hp
              rw [hpo] at hcallA
              have HCallA := Lib.hid hcallA
              generalize hrr : recR L ⟨rk, rr, lab, pts⟩ = rres at *
              obtain ⟨rn, rL⟩ := rres
              have HRr2 := Lib.hid hrr
              simp only at HCallA HOf HLen
              clear hP hL4 hrec hof hxf hltX hlen hcallA hrr hpo
              go_upto_region 9 with fail
              generalize wr.alloc (.cells #[.int .i64 rk, .int .u32 rr, .slice A4 lab.length c4, .slice A5 pts.length c5] 62) = W at *
              have y0 : W.drew.cell? ⟨wr.heap.size, 0, none⟩ = some (.int .i64 rk) := v0
              have y1 : W.drew.cell? ⟨wr.heap.size, 1, none⟩ = some (.int .u32 rr) := v1
              have y2 : W.drew.cell? ⟨wr.heap.size, 2, none⟩ = some (.slice A4 lab.length c4) := v2
              have y3 : W.drew.cell? ⟨wr.heap.size, 3, none⟩ = some (.slice A5 pts.length c5) := v3
              have HPd : Hid (Pr w hp xp H L o X v ls W.drew) := Lib.hid (HPw.out.then (bdrew (Below.refl _ _)))
              have N0 : Hid (wr.heap.size ∉ X) := Lib.hid fun hm => by have := HLtX.out _ hm; omega
              have Hsz : Hid (wr.heap.size < W.drew.heap.size) := Lib.hid hsz
              clear v0 v1 v2 v3 z0 z1 z2 z3 hsz
              go_region_held3 (fun w' => w'.cell? ⟨wr.heap.size, 0, none⟩ = some (.int .i64 rk) ∧ w'.cell? ⟨wr.heap.size, 1, none⟩ = some (.int .u32 rr) ∧ w'.cell? ⟨wr.heap.size, 2, none⟩ = some (.slice A4 lab.length c4) ∧ w'.cell? ⟨wr.heap.size, 3, none⟩ = some (.slice A5 pts.length c5)) (first | exact ⟨y0, y1, y2, y3⟩ | exact ⟨HTu.out.apart.cell N0.out y0, HTu.out.apart.cell N0.out y1, HTu.out.apart.cell N0.out y2, HTu.out.apart.cell N0.out y3⟩ | exact ⟨t0, t1, t2, t3⟩ | exact ⟨later hb5 t0, later hb5 t1, later hb5 t2, later hb5 t3⟩)
                (first | (go_at_call 17; refine (HCallA.out _ HPd.out).mono ?_; rintro e w' ht; obtain ⟨o2, X2, htu⟩ := (Turned.start HPd.out.head).record ht; obtain ⟨rfl, -⟩ := id ht; have HTu := Lib.hid htu; have HPm := Lib.hid (HPd.out.turnH htu); clear ht htu) | (go_at_call 23; refine (ref14_record (X := X2) ⟨rk, rr, lab, pts⟩ (.slice A4 lab.length c4) (.slice A5 pts.length c5) _ HPm.out.ref (fun k hk => HPm.out.head.inn.ix.lt k hk) (by have h9 := congrArg List.length HPm.out.keys; rw [List.length_map] at h9; rw [h9]; exact HL4.out) (by rw [HPm.out.keys]; exact pr_rk HPd.out.of) (old_out HD1.out HPm.out.below HPm.out.new) (old_out HD2.out HPm.out.below HPm.out.new) HXf.out.2.1).mono ?_; rintro e w4 hr4; rw [HPm.out.keys, HRr2.out] at hr4; obtain ⟨rfl, X3, v3, hrt⟩ := hr4; obtain ⟨l3, hp3⟩ := HPm.out.turnR hrt HOf.out; have HP3 := Lib.hid hp3; have M0 : Hid (¬ blksR xp v wr.heap.size) := Lib.hid (fun hm => by have h8 := HPm.out.ref.sub _ hm; rcases HTu.out.more.new _ h8 with h7 | h7; exact N0.out h7; have := Hsz.out; omega); have t0 := hrt.apart.cell M0.out (HTu.out.apart.cell N0.out y0); have t1 := hrt.apart.cell M0.out (HTu.out.apart.cell N0.out y1); have t2 := hrt.apart.cell M0.out (HTu.out.apart.cell N0.out y2); have t3 := hrt.apart.cell M0.out (HTu.out.apart.cell N0.out y3); clear hrt hp3) | (go_at_call 24; refine (law_same _ HP3.out HLen.out).mono ?_; rintro e w5 ⟨rfl, hb5⟩))
              have HFin : Hid (LawAt w hp xp w5) := Lib.hid ⟨_, _, _, _, _, _, HP3.out.then hb5, HLen.out⟩
              clear t0 t1 t2 t3 y0 y1 y2 y3 hb5
              go_wp2_with fail
              go_roundw
              case rel => exact ⟨k + 1, by omega, by go_num, HFin.out⟩
              case measure => simp [intOf] <;> omega
            · have hget := fun (W : World) (hW : Pr w hp xp H L o X v ls W) => head_get (X := X) (o := o) (H := H) (.slice A2 n2 c2) q W hW.head (HQv.out.below hW.below) HQz.out (HT.out.below hW.below h2) (Nat.le_trans h2 hW.below.size)
              have hpo := hP.hp
              rw [hpo] at hget
              have HP := Lib.hid hP
              have hslc := hP.ref.slc
              have HSlc := Lib.hid hslc
              have c0 := blk_cell hP.ref.hc 0
              simp at c0
              have HBr := Lib.hid hP.below
              have hat := fun (W : World) (hW : Below wr.heap.size wr W) => ref14_at xp v (.slice A2 n2 c2) ls q W (later hW c0) (hslc.below hW) (hP.ref.ok.below hW) (HQv.out.below (bthen hP.below hW))
              have HOk := Lib.hid hP.ref.ok
              rcases get_find hP.of hP.keys q with ⟨g1, g2⟩ | ⟨i, hi, g1, g2⟩
              · have hget1 := hget wr hP
                unfold GetPost at hget1
                rw [g1] at hget1
                rw [g2] at hat
                have HGet := Lib.hid hget1
                have HAt := Lib.hid hat
                clear hget hget1 hat g1 g2 hslc c0 hpo hP hL4
                go_wp2_with fail
                refine HGet.out.mono ?_
                rintro e w6 ⟨v6, rfl, hs6, hb6⟩
                obtain ⟨A6, c6, rfl, -⟩ := hs6
                have HB6 := Lib.hid hb6
                clear hb6
                go_wp2_with fail
                refine (HAt.out _ HB6.out).mono ?_
                rintro e w7 ⟨rfl, hb7⟩
                have HB7 := Lib.hid (bthen HBr.out (bthen HB6.out hb7))
                clear hb7
                simp only [ixF, Option.getD_none, List.length_nil, Option.isSome_none]
                go_wp2_with fail
                go_ret
                exact ⟨rfl, HB7.out⟩
              · have hget1 := hget wr hP
                unfold GetPost at hget1
                rw [g2] at hget1
                rw [g1] at hat
                have HGet := Lib.hid hget1
                have HAt := Lib.hid hat
                clear hget hget1 hat g1 g2 hpo hL4
                obtain ⟨A9, c9, rfl, -, -, -, -, r5⟩ := hslc
                obtain ⟨b, off, rfl, -, -, z2⟩ := rdSr_at r5 hi
                have hpv := (hP.ref.ok _ (List.getElem_mem hi)).2
                obtain ⟨A5, c5, e5, -⟩ := id hpv
                rw [e5] at z2 hpv
                have HPv := Lib.hid hpv
                obtain ⟨n9, hn99⟩ : ∃ n9, n9 = ls.length := ⟨_, rfl⟩
                have hi1 : (i : Int) < (n9 : Int) := by omega
                have hi0 : (0 : Int) ≤ (i : Int) := by omega
                rw [← hn99] at c0
                generalize hn5 : ls[i].pts.length = n5 at *
                have Hn5 := Lib.hid hn5
                generalize ls[i].pts = lp at *
                clear hpv e5 r5 hP hn5 hn99
                go_wp2_with fail
                refine HGet.out.mono ?_
                rintro e w6 ⟨v6, rfl, hs6, hb6⟩
                have hs6' : SlP w6 (fun k => wr.heap.size ≤ k) v6 lp := hs6
                have HS6 := Lib.hid hs6'
                obtain ⟨A6, c6, rfl, -⟩ := id hs6'
                have HB6 := Lib.hid hb6
                clear hb6 hs6 hs6'
                go_wp2_with fail
                refine (HAt.out _ HB6.out).mono ?_
                rintro e w7 ⟨rfl, hb7⟩
                have HB7 := Lib.hid (bthen HB6.out hb7)
                have d0 := later HB7.out c0
                have d2 := later HB7.out z2
                have hsame := same_pts w7 (HS6.out.below hb7) (HPv.out.below HB7.out)
                have HSame := Lib.hid hsame
                clear hb7 hsame c0 z2
                simp only [ixF, Option.getD_some, Option.isSome_some]
                go_wp2_with fail
                refine (HSame.out _ (Below.refl _ _)).mono ?_
                rintro e w8 ⟨rfl, hb8⟩
                have HB8 := Lib.hid (bthen HBr.out (bthen HB7.out hb8))
                clear hb8
                go_wp2_with fail
                go_ret
                exact ⟨rfl, HB8.out⟩
end Go.Proofs.YtfjlballemibjaaDoor
