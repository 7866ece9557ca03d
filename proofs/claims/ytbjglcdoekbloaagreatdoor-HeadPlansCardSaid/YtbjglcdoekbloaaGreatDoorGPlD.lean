import Derived.Test.YtbjglcdoekbloaaGreatDoorGPlC
import Derived.Deep.DeepCutAuto
import Derived.Deep.CutBlock
import Derived.Deep.RegionHeld3
set_option linter.unusedSimpArgs false
set_option linter.unusedVariables false
set_option linter.unusedSectionVars false
/- head.Head.Plan. -/
namespace Go.Proofs.YtbjglcdoekbloaaGreatDoor
open Go.RowKit Go.Proofs.YtbjglcdoekbloaaGreatDoor.MapRaw Go.ChangeMaps

def PlanPost (w : World) (r : List Rec × List Mk × Int) (e : Ending) (w' : World) : Prop :=
  ∃ rv mv rl, e = .returned (.tuple #[rv, mv, .int .i64 r.2.2]) ∧ Slc 4 RecV.enc w' (fun k => w.heap.size ≤ k) rv rl ∧ RecOk w' (fun k => w.heap.size ≤ k) rl ∧ rl.map RecV.r = r.1 ∧ Slc 2 Mk.enc w' (fun k => w.heap.size ≤ k) mv r.2.1 ∧ Below w.heap.size w w'
theorem PlanPost.err {w w' : World} (n : Int) (hb : Below w.heap.size w w') : PlanPost w ([], [], n) (.returned (.tuple #[.slice none 0 0, .slice none 0 0, .int .i64 n])) w' :=
  ⟨_, _, [], rfl, Slc.nil _ _ _ _, fun x hx => by simp at hx, rfl, Slc.nil _ _ _ _, hb⟩

set_option maxRecDepth 100000 in
set_option maxHeartbeats 1000000 in
theorem plan_early {D : Nat → Prop} {X : List Nat} {o : HLoc} {H : Hd} (seq : Int) (v : Value) (l : List Po) (w : World) (h : HeadAt w X o H) (hv : Slc 4 Po.enc w D v l) (hn : 16 < l.length ∨ seq = 0) :
    Calls Tryz.prog 11 #[.pointer (some ⟨o.hp, 0, none⟩), .int .u64 seq, v] w (PlanPost w (planF H seq l)) := by
  have c0 := blk_cell h.hc 0
  simp at c0
  obtain ⟨A, c, rfl, p1, p2, p3, p4, p5⟩ := hv
  by_cases h16 : 16 < l.length
  · have e : planF H seq l = ([], [], 3) := by unfold planF; rw [if_pos h16]
    rw [e]
    have h16' : (16 : Int) < (l.length : Int) := by omega
    have hb : decide ((16 : Int) < (l.length : Int)) = true := by simpa using h16'
    clear h16 hn e p1 p2 p3 p4 p5 h
    generalize l.length = n at *
    go_enter Tryz.func11, Tryz.ntmps11
    go_wp2_with fail
    refine (head_is _ _ _ c0).mono ?_
    rintro e w' ⟨rfl, rfl⟩
    go_wp2
    go_ret3
    exact PlanPost.err 3 (Below.refl _ _)
  · have hs : seq = 0 := hn.resolve_left h16
    subst hs
    have e : planF H 0 l = ([], [], 1) := by unfold planF; rw [if_neg h16, if_pos rfl]
    rw [e]
    have h16' : ¬ (16 : Int) < (l.length : Int) := by omega
    have hb : decide ((16 : Int) < (l.length : Int)) = false := by simpa using h16'
    clear h16 hn e p1 p2 p3 p4 p5 h
    generalize l.length = n at *
    go_enter Tryz.func11, Tryz.ntmps11
    go_wp2_with fail
    refine (head_is _ _ _ c0).mono ?_
    rintro e w' ⟨rfl, rfl⟩
    go_wp2
    go_ret3
    exact PlanPost.err 1 (Below.refl _ _)

/-- what is planned of a series lies in the map -/
def CurAt (w2 : World) (a0 a1 vb : Nat) (t : Wl) (q : Int) (cur : List Pt) (ev : Value) (xT xV : Int) (wx : World) : Prop :=
  ∃ m', WlMem wx a0 a1 m' t.ents ev ∧ mget m' q = some cur ∧ (∀ x, mput m' q x = mput t.will q x) ∧ Below w2.heap.size w2 wx ∧ wx.cell? ⟨vb, 2, none⟩ = some (.int .i64 xT) ∧ wx.cell? ⟨vb, 3, none⟩ = some (.int .u64 xV)
def EntAt (w2 : World) (a0 a1 : Nat) (m' : List (Int × List Pt)) (es : List En) (v : Value) (l : List Pt) (wx : World) : Prop :=
  ∃ ev', WlMem wx a0 a1 m' es ev' ∧ SlP wx (Dw a0 a1 ev') v l ∧ Below w2.heap.size w2 wx
theorem mk_len (x : Mk) : x.enc.length = 2 := rfl
theorem mk_one (x : Mk) : ∀ u ∈ x.enc, u.oneCell' = true := by
  intro u hu
  simp [Mk.enc] at hu
  rcases hu with rfl | rfl <;> rfl
/-- where the loop of the marks stands -/
structure MarksTo (w7 : World) (will : List (Int × List Pt)) (l : List (Po × Int)) (k : Nat) (v : Value) (w : World) : Prop where
  own : w.ownsRow w7.heap.size 79 2 v k (((l.take k).map (markOf will)).flatMap Mk.enc)
  below : Below w7.heap.size w7 w
theorem MarksTo.start (w7 : World) (will : List (Int × List Pt)) (l : List (Po × Int)) : MarksTo w7 will l 0 (.slice none 0 0) w7 := ⟨⟨rfl, .inl ⟨rfl, rfl⟩⟩, Below.refl _ _⟩
theorem marks_add (will : List (Int × List Pt)) (l : List (Po × Int)) (k : Nat) (hk : k < l.length) : ((l.take (k + 1)).map (markOf will)).flatMap Mk.enc = ((l.take k).map (markOf will)).flatMap Mk.enc ++ (markOf will l[k]).enc := by
  rw [List.take_succ_eq_append_getElem hk, List.map_append, List.flatMap_append]
  simp only [List.map_cons, List.map_nil, List.flatMap_cons, List.flatMap_nil, List.append_nil]
theorem info_mk : (Tryz.prog.info? 79).map (fun i => (i.zero, i.size, i.bytes)) = some (some (.agg #[.int .i64 0, .bool false]), 2, 16) := by kernel_rfl
set_option maxRecDepth 100000 in
set_option maxHeartbeats 8000000 in
theorem plan_late {D : Nat → Prop} {X : List Nat} {o : HLoc} {H : Hd} (seq : Int) (v : Value) (l : List Po) (w : World) (h : HeadAt w X o H) (hv : Slc 4 Po.enc w D v l) (hl : PoOk w D l) (hT : Tabs w) (h2 : 2 ≤ w.heap.size) (ht : 0 ≤ H.top ∧ H.top ≤ 4294967295) (hall : H.ix.all.length ≤ 1000000) (h16 : ¬ 16 < l.length) (h0 : seq ≠ 0) :
    Calls Tryz.prog 11 #[.pointer (some ⟨o.hp, 0, none⟩), .int .u64 seq, v] w (PlanPost w (planF H seq l)) := by
  have c0 := blk_cell h.hc 0
  simp at c0
  have s0 : (seq == 0) = false := by simpa using h0
  have hplan : planF H seq l = (if labsErr l ≠ 0 then ([], [], labsErr l)
      else if fullF H (plOf (lookAll H.ix H.top (l.map Po.lab))) = true then ([], [], 5)
      else if (wlAll H seq (l.zip (lookAll H.ix H.top (l.map Po.lab)).of) ⟨[], []⟩).1 ≠ 0 then ([], [], (wlAll H seq (l.zip (lookAll H.ix H.top (l.map Po.lab)).of) ⟨[], []⟩).1)
      else (recsOf (lookAll H.ix H.top (l.map Po.lab)).born (wlAll H seq (l.zip (lookAll H.ix H.top (l.map Po.lab)).of) ⟨[], []⟩).2.ents,
        (l.zip (lookAll H.ix H.top (l.map Po.lab)).of).map (markOf (wlAll H seq (l.zip (lookAll H.ix H.top (l.map Po.lab)).of) ⟨[], []⟩).2.will), 0)) := by
    unfold planF; rw [if_neg h16, if_neg h0]
  have HPlan := Lib.hid hplan
  have HV := Lib.hid hv
  obtain ⟨A, c, rfl, p1, p2, p3, p4, p5⟩ := hv
  have HR := Lib.hid p5
  have HL := Lib.hid hl
  have HH := Lib.hid h
  have HT := Lib.hid hT
  have HTop := Lib.hid ht
  have HAll := Lib.hid hall
  obtain ⟨n, hn'⟩ : ∃ n, n = l.length := ⟨_, rfl⟩
  have Hn := Lib.hid hn'
  have hb16 : decide ((16 : Int) < (n : Int)) = false := decide_eq_false (by omega)
  have hn16 : n ≤ 16 := by omega
  rw [← hn'] at HV ⊢
  clear h hl hT ht hall p1 p2 p3 p4 p5 hn' h16 h0 hplan
  generalize planF H seq l = res at *
  go_enter Tryz.func11, Tryz.ntmps11
  go_wp2_with fail
  refine (head_is _ _ _ c0).mono ?_
  rintro e w' ⟨rfl, rfl⟩
  go_wp2
  go_loopw [40] (fun i wr => ∃ k : Nat, k ≤ n ∧ i = .int .i64 k ∧ LabsTo l k ∧ Below w.heap.size w wr) (fun i _ => n - (intOf i).toNat)
  case atStart => exact ⟨0, Nat.zero_le _, rfl, LabsTo.start _, Below.refl _ _⟩
  case round =>
    obtain ⟨k, hk, rfl, hE, hB⟩ := hrel
    by_cases hlt : k < n
    · have hkl : k < l.length := by rw [← Hn.out]; exact hlt
      obtain ⟨b, off, rfl, z0, z1, z2, z3⟩ := rdO_at (Rd.below HR.out hB) hkl
      have hx := HL.out _ (List.getElem_mem hkl)
      have hRd := hE.round hkl
      generalize l[k] = x at *
      obtain ⟨xat, xv, lab, xT, xV⟩ := x
      simp only at z0 z1 z2 z3 hx hRd
      obtain ⟨⟨A2, c2, rfl, y1, y2, y3, y4, y5⟩, hsz⟩ := hx
      have hri := fun (W : World) (hW : Below w.heap.size w W) => labels_right A2 c2 lab W (RdL.below y5 hW) (by omega) hsz (HT.out.below hW h2) (Nat.le_trans h2 hW.size)
      have HRi := Lib.hid hri
      have HBr := Lib.hid hB
      clear hri hE hB y1 y2 y3 y4 y5 hsz
      generalize lab.length = nlab at *
      have HBw : Hid (Below wr.heap.size wr (wr.alloc (.cells #[.int .i64 xat, .slice A2 nlab c2, .int .i64 xT, .int .u64 xV] 77))) := Lib.hid (balloc (Below.refl _ _) _)
      rcases hRd with ⟨g1, g2⟩ | ⟨g1, g2⟩
      · have hres : res = ([], [], rightF lab) := by rw [HPlan.out, if_pos (by rw [g2]; exact g1), g2]
        have g1' : (rightF lab != 0) = true := by simpa using g1
        clear g1 g2
        have HRes := Lib.hid hres
        clear hres
        generalize rightF lab = rr at *
        go_wp2_with fail
        refine (HRi.out _ (bthen HBr.out HBw.out)).mono ?_
        rintro e w' ⟨rfl, hb'⟩
        have HB' := Lib.hid hb'
        clear hb'
        go_wp2
        go_ret3
        rw [HRes.out]
        exact PlanPost.err rr (bthen (bthen HBr.out HBw.out) HB'.out)
      · have HE' := Lib.hid g2
        rw [g1] at HRi
        clear g1 g2
        go_wp2_with fail
        refine (HRi.out _ (bthen HBr.out HBw.out)).mono ?_
        rintro e w' ⟨rfl, hb'⟩
        have HB' := Lib.hid hb'
        clear hb'
        go_wp2
        go_roundw
        case rel => exact ⟨k + 1, by omega, by go_num, HE'.out, bthen (bthen HBr.out HBw.out) HB'.out⟩
        case measure => simp [intOf] <;> omega
    · obtain ⟨hd1, hd2⟩ := hE.done (by rw [← Hn.out]; exact hlt)
      have hres := HPlan.out
      rw [if_neg (by simp [hd1])] at hres
      have HRes := Lib.hid hres
      have hlook := fun (W : World) (hW : Below w.heap.size w W) => inner_look (.slice A n c) l W (HH.out.inn.below hW) (HV.out.below hW) (HL.out.below hW) (HT.out.below hW h2) (Nat.le_trans h2 hW.size) (by rw [← Hn.out]; exact hn16) (fun x hx => rightF_len (hd2 x hx)) HTop.out
      unfold LookPost at hlook
      have HLook := Lib.hid hlook
      have HB := Lib.hid hB
      have c0' := later hB c0
      clear hlook hres hd1 hd2 hE hB HPlan c0
      have hpv := look_prev H.ix H.top (l.map Po.lab)
      have HPv := Lib.hid hpv
      clear hpv
      generalize lookAll H.ix H.top (l.map Po.lab) = s at *
      go_wp2_with fail
      refine (HLook.out _ HB.out).mono ?_
      rintro e w1 ⟨qb, B, mb, ofv, bornv, bl, rfl, hq, hrest, hbl, hlt3, hb1⟩
      have HQ := Lib.hid hq
      have HRest := Lib.hid hrest
      have HBl := Lib.hid hbl
      have HLt := Lib.hid hlt3
      have HB1 := Lib.hid (bthen HB.out hb1)
      have HaB : Hid (w.heap.size ≤ B) := Lib.hid (by have := hlt3; have := HB.out.size; omega)
      have c1 := later hb1 c0'
      clear hq hrest hbl hlt3 hb1 c0' HLook
      have hofl : s.of.length = n := by
        have := congrArg List.length HPv.out.1
        simp at this; unfold Lk.of; simp [Hn.out, this]
      have Hofl := Lib.hid hofl
      have hplat : PlAt w1 (fun k => B ≤ k) qb mb (plOf s) := by
        obtain ⟨Ab, cb, eb, _⟩ := own_rd recV_len rfl HRest.out.born
        have e2 : bl.length = (plOf s).born.length := by unfold plOf; rw [← HBl.out]; simp
        exact ⟨⟨ofv, Ab, cb, by rw [HQ.out, eb, e2]; rfl, own_slc encU_len rfl HRest.out.of⟩, HRest.out.more⟩
      have hfull := inner_full w1 (HH.out.inn.below HB1.out) hplat HAll.out (by have h4 := HPv.out.2.2.2; have h5 := Hn.out; rw [List.length_map, ← h5] at h4; unfold plOf; rw [List.length_map]; omega) (by show s.of.length ≤ _; omega)
      have HFull := Lib.hid hfull
      clear hfull hplat hofl
      by_cases hf : fullF H (plOf s) = true
      · have hres := HRes.out
        rw [if_pos hf] at hres
        have HRes := Lib.hid hres
        rw [hf] at HFull
        clear hf hres
        go_wp2_with fail
        refine HFull.out.mono ?_
        rintro e w2 ⟨rfl, hb2⟩
        have HB2 := Lib.hid hb2
        clear hb2
        go_wp2
        go_ret3
        rw [HRes.out]
        exact PlanPost.err 5 (bthen HB1.out HB2.out)
      · have hres := HRes.out
        rw [if_neg hf] at hres
        have HRes := Lib.hid hres
        have hf' : fullF H (plOf s) = false := by simpa using hf
        rw [hf'] at HFull
        clear hf hf' hres
        go_wp2_with fail
        refine HFull.out.mono ?_
        rintro e w2 ⟨rfl, hb2⟩
        have HB2 := Lib.hid hb2
        clear hb2
        have HB12 : Hid (Below w.heap.size w w2) := Lib.hid (bthen HB1.out HB2.out)
        have HRs := Lib.hid (HRest.out.below (qb := qb) (by have := HLt.out; omega) (by have := HLt.out; omega) HB2.out)
        have HQ2 := Lib.hid (blk_below HQ.out HB2.out)
        have hmm := @run_makeMap Tryz.prog
        have HW0 := Lib.hid (WlMem.start (w := w2) (a0 := w.heap.size) HB12.out.size)
        have HB23 : Hid (Below w2.heap.size w2 ((w2.alloc (.map #[] 0)).alloc (recCells (.slice none 0 0)))) := Lib.hid (balloc (balloc (Below.refl _ _) _) _)
        clear HFull HRest HQ
        go_wp2
        generalize (w2.alloc (.map #[] 0)).alloc (recCells (.slice none 0 0)) = w3 at *
        have HMem : Hid (WlMem w3 w.heap.size w2.heap.size [] [] (.slice none 0 0)) := HW0
        obtain ⟨Aof, cof, rfl, g1, g2, g3, g4, g5⟩ := own_rd encU_len rfl HRs.out.of
        have q20 := blk_cell HQ2.out 0
        simp at q20
        rw [Hofl.out] at q20
        have HOf := Lib.hid g5
        have c2 := later HB2.out c1
        have i2 : w2.cell? ⟨o.ib, 1, none⟩ = some (.map (some o.pb)) := by
          have := blk_cell (HH.out.inn.below HB12.out).ic 1
          simpa using this
        have hzl : (l.zip s.of).length = n := by rw [List.length_zip, ← Hn.out, Hofl.out, Nat.min_self]
        have Hzl := Lib.hid hzl
        have heqn : ∀ (W : World) (Av : Option Addr) (nv cv : Nat), (binOp .eql 54 (.slice Av nv cv) (.slice none 0 0)).run Tryz.prog W = .ok (.bool Av.isNone) W := fun W Av nv cv => Lib.run_eql_slice_nil W _ _ Av nv cv 0 0 Tryz.underlying54
        clear g1 g2 g3 g4 g5 c1 hzl HW0
        go_loopw [67] (fun i wr => ∃ (k : Nat) (t : Wl) (ev : Value), k ≤ n ∧ i = .int .i64 k ∧ WlTo H seq (l.zip s.of) k t ∧ WlMem wr w.heap.size w2.heap.size t.will t.ents ev ∧ Below w2.heap.size w2 wr) (fun i _ => n - (intOf i).toNat)
        case atStart => exact ⟨0, ⟨[], []⟩, _, Nat.zero_le _, rfl, WlTo.start _ _ _, HMem.out, HB23.out⟩
        case round =>
          obtain ⟨k, t, ev, hk, rfl, hE, hMem, hB⟩ := hrel
          by_cases hlt : k < n
          · have hkl : k < l.length := by rw [← Hn.out]; exact hlt
            have hkz : k < (l.zip s.of).length := by rw [Hzl.out]; exact hlt
            have hko : k < s.of.length := by rw [Hofl.out]; exact hlt
            have hpk : (l.zip s.of)[k] = (l[k], s.of[k]) := List.getElem_zip
            obtain ⟨b, off, rfl, z0, z1, z2, z3⟩ := rdO_at (Rd.below HR.out (bthen HB12.out hB)) hkl
            obtain ⟨b3, off3, rfl, zq⟩ := rdU_at (Rd.below HOf.out hB) hko
            have hx := (HL.out _ (List.getElem_mem hkl)).1
            generalize s.of[k] = q at *
            generalize l[k] = x at *
            obtain ⟨xat, xv, lab, xT, xV⟩ := x
            obtain ⟨r, hrr⟩ : ∃ r, putF (nowF H t.will q) ⟨xT, xV, seq⟩ = r := ⟨_, rfl⟩
            have hRd := hE.round (r := r) hkz hpk hrr
            simp only [ptOf] at z0 z1 z2 z3 hRd hx
            have Hrr := Lib.hid hrr
            clear hrr
            obtain ⟨Axv, cxv, rfl, -⟩ := hx
            have HRd := Lib.hid hRd
            have HNe := Lib.hid hE.ne
            have HElen := Lib.hid hE.len
            have y00 := later hB q20
            have y0c := later hB c2
            have y0i := later hB i2
            have HBr := Lib.hid hB
            have hMsz := Lib.hid hMem.le.2
            generalize lab.length = nlab at *
            have hbw : Below wr.heap.size wr (wr.alloc (.cells #[.int .i64 xat, .slice Axv nlab cxv, .int .i64 xT, .int .u64 xV] 77)) := balloc (Below.refl _ _) _
            have HBw := Lib.hid hbw
            have v2 : (wr.alloc (.cells #[.int .i64 xat, .slice Axv nlab cxv, .int .i64 xT, .int .u64 xV] 77)).cell? ⟨wr.heap.size, 2, none⟩ = some (.int .i64 xT) := by simp
            have v3 : (wr.alloc (.cells #[.int .i64 xat, .slice Axv nlab cxv, .int .i64 xT, .int .u64 xV] 77)).cell? ⟨wr.heap.size, 3, none⟩ = some (.int .u64 xV) := by simp
            have HV2 := Lib.hid v2
            have HV3 := Lib.hid v3
            have HMw := Lib.hid (hMem.below hbw)
            obtain ⟨ms, mc, vv, hom, hMo, hvn, hvs, hvl⟩ := will_look HMw.out q
            have hvl1 := hvl _ hom
            -- what is planned so far
            have hcur : (mget t.will q = none ∧ vv = .slice none 0 0) ∨ ∃ m bm om cm, mget t.will q = some m ∧ vv = .slice (some ⟨bm, om, none⟩) m.length cm := by
              cases hg : mget t.will q with
              | none => exact .inl ⟨rfl, hvn hg⟩
              | some m =>
                obtain ⟨bm, om, cm, e⟩ := slc_some (hvs m hg).1 (HNe.out (q, m) (mget_mem hg))
                exact .inr ⟨m, bm, om, cm, rfl, e⟩
            have hvv : ∃ Av nv cv, vv = .slice Av nv cv := by
              rcases hcur with ⟨_, e⟩ | ⟨m, bm, om, cm, _, e⟩
              · exact ⟨_, _, _, e⟩
              · exact ⟨_, _, _, e⟩
            obtain ⟨Av, nv, cv, rfl⟩ := hvv
            have HCur := Lib.hid hcur
            have y1 := later hbw y00
            have y2 := later hbw zq
            clear hvn hvs hcur hB hE hRd y00 zq hMem hbw v2 v3 hpk hvl
            have heqn1 := heqn (wr.alloc (.cells #[.int .i64 xat, .slice Axv nlab cxv, .int .i64 xT, .int .u64 xV] 77)) Av nv cv
            go_upto_if 82 with fail
            go_cut [] (fun wx => CurAt w2 w.heap.size w2.heap.size wr.heap.size t q (nowF H t.will q) ev xT xV wx)
            case first =>
              have e0 := later HBw.out y0c
              have ei := later HBw.out y0i
              have hB2W := bthen HBr.out HBw.out
              rcases HCur.out with ⟨hg, e⟩ | ⟨m, bm, om, cm, hg, e⟩
              · cases e
                obtain ⟨ep, cp, pv, hop, _, hev, hlp⟩ := pts_look HH.out.inn.pts q
                have hop1 := blk_below hop (bthen HB12.out hB2W)
                have hlp1 := hlp _ hop1
                have hevW : evW (wr.alloc (.cells #[.int .i64 xat, .slice Axv nlab cxv, .int .i64 xT, .int .u64 xV] 77)) (Dw w.heap.size w2.heap.size ev) ((mget H.pts q).getD []) pv :=
                  ⟨(Slc.mono hev.1 (fun k hk _ => ⟨.inl hk, own_ne HMw.out.ents (by have := HMw.out.le; omega)⟩)).below (bthen HB12.out hB2W), hev.2⟩
                obtain ⟨ms', mc', hup, hM'⟩ := update_all keyU Tryz.underlying88 w2.heap.size hMo (a := q) trivial (fun _ _ => trivial) hevW
                have hup1 := hup _ hom
                have hcu : CurAt w2 w.heap.size w2.heap.size wr.heap.size t q (nowF H t.will q) ev xT xV (setBlock (wr.alloc (.cells #[.int .i64 xat, .slice Axv nlab cxv, .int .i64 xT, .int .u64 xV] 77)) w2.heap.size (.map ms' mc')) := by
                  have hsz := HBr.out.size
                  have hle := HMw.out.le
                  have hne : wr.heap.size ≠ w2.heap.size := by have := (World.block_lt_of_cell? _ _ HV2.out); have h3 := HB23.out.size; have h4 := hMsz.out; omega
                  refine ⟨_, HMw.out.put hM', ?_, fun x => mput_put _ _ _ _, setB_below hB2W (Nat.le_refl _), cell_setBlock hne HV2.out, cell_setBlock hne HV3.out⟩
                  rw [mget_put, if_pos rfl]; unfold nowF; rw [hg]; rfl
                have HCu := Lib.hid hcu
                clear hop hop1 hev hevW hup hM' hcu hB2W hlp HCur heqn heqn1
                go_wp2_with fail
                go_meet
                exact HCu.out
              · cases e
                have hcu : CurAt w2 w.heap.size w2.heap.size wr.heap.size t q (nowF H t.will q) ev xT xV (wr.alloc (.cells #[.int .i64 xat, .slice Axv nlab cxv, .int .i64 xT, .int .u64 xV] 77)) :=
                  ⟨_, HMw.out, by rw [hg]; unfold nowF; rw [hg]; rfl, fun _ => rfl, hB2W, HV2.out, HV3.out⟩
                have HCu := Lib.hid hcu
                clear hcu hB2W HCur heqn heqn1
                go_wp2_with fail
                go_meet
                exact HCu.out
            case rest =>
              obtain ⟨m', hMx, hgm, hmp, hB2, x2, x3⟩ := hcut
              clear hom hMo hvl1 HV2 HV3 HMw HCur heqn heqn1 y1 y2 HBw
              obtain ⟨ms, mc, vv, hom, hMo, -, hvs, hvl⟩ := will_look hMx q
              have hev := hvs _ hgm
              have hvl1 := hvl _ hom
              have hput := points_put vv (nowF H t.will q) ⟨xT, xV, seq⟩ wc hev.1
              have hrl := putF_len (p := ⟨xT, xV, seq⟩) hev.2
              unfold PutPost at hput
              have HEv := Lib.hid hev
              obtain ⟨⟨Ac, cc, rfl, k1, k2, k3, k4, k5⟩, hcl⟩ := hev
              rw [Hrr.out] at hput hrl
              have HPut := Lib.hid hput
              have HMx := Lib.hid hMx
              have HBx := Lib.hid hB2
              have Hrl := Lib.hid hrl
              have Hmp := Lib.hid hmp
              have Hgm := Lib.hid hgm
              have HK5 := Lib.hid k5
              have Hcl := Lib.hid hcl
              clear hvs hput hMx hB2 hrl hmp hgm k1 k2 k3 k4 k5 hcl Hrr
              generalize hcur : nowF H t.will q = cur at *
              have hnc : ∃ nc, nc = cur.length := ⟨_, rfl⟩
              obtain ⟨nc, hnc⟩ := hnc
              have Hnc := Lib.hid hnc
              rw [← hnc] at hvl1 HPut HEv
              simp only [← hnc] at hvl
              rcases HRd.out with ⟨g1, g2⟩ | ⟨g1, g2, g3⟩
              · have hres := HRes.out
                rw [if_pos (by rw [g2]; exact g1), g2] at hres
                have HRes' := Lib.hid hres
                have g1' : (r.2.2 != 0) = true := by simpa using g1
                clear g1 g2 hres hnc hcur HRd hvl
                go_wp2_with fail
                refine HPut.out.mono ?_
                rintro e w4 ⟨v', rfl, hb4, htr⟩
                have HB4 := Lib.hid hb4
                clear hb4 htr
                go_wp2
                go_ret3
                rw [HRes'.out]
                exact PlanPost.err r.2.2 (bthen (bthen HB12.out HBx.out) HB4.out)
              · have g1' : (r.2.2 != 0) = false := by simpa using g1
                have HTo := Lib.hid g3
                rw [g1] at HPut
                clear g1 g2 g3 hnc hcur HRd
                go_wp2_with fail
                refine HPut.out.mono ?_
                rintro e w4 ⟨v', rfl, hb4, htr⟩
                have hom4 := blk_below hom hb4
                have hvl4 := hvl _ hom4
                have hS4 : SlP w4 (Dw w.heap.size w2.heap.size ev) v' r.1 := htr _ HEv.out.1 (fun k hk => ⟨.inr (by have := HMx.out.le; omega), fun e => by have := ownsRow_blk HMx.out.ents k e.symm; omega⟩)
                obtain ⟨A', c', rfl, j1, j2, j3, j4, j5⟩ := id hS4
                have hequ := points_equal A' Ac c' cc r.1 cur w4 j5 (RdP.below HK5.out hb4) (by have := Hrl.out; simp only [maxLen]; omega) (by have := Hcl.out; simp only [maxLen]; omega)
                rw [← Hnc.out] at hequ
                obtain ⟨bz, hbz⟩ : ∃ bz, decide (r.1 = cur) = bz := ⟨_, rfl⟩
                rw [hbz] at hequ
                have Hbz := Lib.hid hbz
                clear hbz
                have HEqu := Lib.hid hequ
                have HS4 := Lib.hid hS4
                have HM4 := Lib.hid (HMx.out.below hb4)
                have HB4 := Lib.hid (bthen HBx.out hb4)
                have u2 := later hb4 x2
                have u3 := later hb4 x3
                have Hom := Lib.hid hom4
                clear htr hS4 j1 j2 j3 j4 j5 hequ hb4 x2 x3 hvl1 hvl hom4 hom HPut
                have hnr : ∃ nr, nr = r.1.length := ⟨_, rfl⟩
                obtain ⟨nr, hnr⟩ := hnr
                have Hnr := Lib.hid hnr
                rw [← hnr] at HEqu HS4 ⊢
                clear hnr
                go_wp2_with fail
                refine HEqu.out.mono ?_
                rintro e w5 ⟨rfl, hb5⟩
                go_upto_if 116 with fail
                have HM5 := Lib.hid (HM4.out.below hb5)
                have HS5 := Lib.hid (HS4.out.below hb5)
                have HB5 := Lib.hid (bthen HB4.out hb5)
                have t2 := later hb5 u2
                have t3 := later hb5 u3
                clear hb5 u2 u3 HM4 HS4 HB4 HEqu Hom HEv hMo
                go_cut [] (fun wx => EntAt w2 w.heap.size w2.heap.size m' (if r.1 = cur then t.ents else t.ents ++ [⟨IntKind.u32.wrap q, ⟨xT, xV, seq⟩⟩]) (.slice A' nr c') r.1 wx)
                case first =>
                  cases bz with
                  | true =>
                    have heq : r.1 = cur := by simpa using Hbz.out
                    have hen : EntAt w2 w.heap.size w2.heap.size m' (if r.1 = cur then t.ents else t.ents ++ [⟨IntKind.u32.wrap q, ⟨xT, xV, seq⟩⟩]) (.slice A' nr c') r.1 w5 := by rw [if_pos heq]; exact ⟨ev, HM5.out, HS5.out, HB5.out⟩
                    have HEn := Lib.hid hen
                    clear hen heq Hbz
                    go_wp2_with fail
                    go_meet
                    exact HEn.out
                  | false =>
                    have heq : ¬ r.1 = cur := by simpa using Hbz.out
                    have Hif : Hid ((if r.1 = cur then t.ents else t.ents ++ [⟨IntKind.u32.wrap q, ⟨xT, xV, seq⟩⟩]) = t.ents ++ [⟨IntKind.u32.wrap q, ⟨xT, xV, seq⟩⟩]) := Lib.hid (if_neg heq)
                    have y3 := HM5.out.recAt
                    have HBa : Hid (Below w5.heap.size w5 (w5.alloc (.cells #[.int .u32 (IntKind.u32.wrap q), .int .i64 xT, .int .u64 xV, .int .u64 seq] 100))) := Lib.hid (balloc (Below.refl _ _) _)
                    have HMa := Lib.hid (HM5.out.below HBa.out)
                    have HSa := Lib.hid (HS5.out.below HBa.out)
                    have HSrc : Hid (SrcAt (w5.alloc (.cells #[.int .u32 (IntKind.u32.wrap q), .int .i64 xT, .int .u64 xV, .int .u64 seq] 100)) (.slice (some ⟨w5.heap.size, 0, none⟩) 1 1) 1 4 (En.enc ⟨IntKind.u32.wrap q, ⟨xT, xV, seq⟩⟩)) := Lib.hid (src_block (m := 1) (size := 4) (blk_new w5 (.cells #[.int .u32 (IntKind.u32.wrap q), .int .i64 xT, .int .u64 xV, .int .u64 seq] 100 (0, 0))) rfl (en_one ⟨IntKind.u32.wrap q, ⟨xT, xV, seq⟩⟩) 1)
                    clear heq Hbz
                    go_wp2_with (at_builtin; refine wpList_app (w0 := w5.alloc (.cells #[.int .u32 (IntKind.u32.wrap q), .int .i64 xT, .int .u64 xV, .int .u64 seq] 100)) (w2.heap.size + 2) rfl _ _ 43 100 _ 4 32 1 (En.enc ⟨IntKind.u32.wrap q, ⟨xT, xV, seq⟩⟩) rfl Tryz.underlying43 info_en rfl (by decide) (by decide) ev t.ents.length (t.ents.flatMap En.enc) ?hs ?hx HMa.out.ents (Below.refl _ _) HMa.out.le.2 (by have := HElen.out; omega) ?_)
                    case hs => rfl
                    case hx => exact HSrc.out
                    intro v6 w6 hO6 hB6 hg6 hat6
                    obtain ⟨A6, c6, rfl⟩ := own_slice hO6
                    have hat6' := (show _ ∨ _ from hat6)
                    have hq6 := blk_grown HMa.out.box hg6 (own_ne HMa.out.ents (by omega))
                    have q63 := blk_cell hq6 3
                    have f63 := free_blk (i := 3) hq6
                    simp at q63
                    have HM6 := Lib.hid (HMa.out.push (x := ⟨IntKind.u32.wrap q, ⟨xT, xV, seq⟩⟩) hO6 hg6 (by simpa using hat6))
                    have HS6 := Lib.hid (slc_push HSa.out HMa.out.le.1 hg6 (by simpa using hat6))
                    have HB6 : Hid (Below w2.heap.size w2 w6) := Lib.hid ((bthen HB5.out HBa.out).trans (hB6.mono (by omega)))
                    clear hO6 hB6 hg6 hat6 hq6 hat6'
                    go_wp2_with fail
                    go_meet
                    unfold EntAt
                    rw [Hif.out]
                    exact ⟨_, HM6.out, HS6.out, HB6.out.setCell (by simp) _⟩
                case rest =>
                  obtain ⟨ev', hMx, hSx, hBx⟩ := hcut
                  obtain ⟨ms2, mc2, _, hom2, hMo2, -, -, -⟩ := will_look hMx q
                  obtain ⟨ms3, mc3, hup, hM3⟩ := update_all keyU Tryz.underlying88 w2.heap.size hMo2 (a := q) trivial (fun _ _ => trivial) (x := r.1) (v := .slice A' nr c') ⟨hSx, Hrl.out⟩
                  have hup1 := hup _ hom2
                  have hfin := hMx.put hM3
                  rw [Hmp.out] at hfin
                  have HFin := Lib.hid hfin
                  have HBf := Lib.hid (setB_below (b := w2.heap.size) (o := .map ms3 mc3) hBx (Nat.le_refl _))
                  clear hMx hSx hBx hup hM3 hMo2 hom2 hfin t2 t3 HM5 HS5 HB5 Hmp Hgm HMx HBx HBr
                  go_wp2_with fail
                  go_roundw
                  case rel => exact ⟨k + 1, ⟨mput t.will q r.1, _⟩, ev', by omega, by go_num, HTo.out, HFin.out, HBf.out⟩
                  case measure => simp [intOf] <;> omega
          · have hdone := hE.done (by rw [Hzl.out]; exact hlt)
            have hk2 : s.of.length = n := Hofl.out
            have HMe := Lib.hid hMem
            have HBe := Lib.hid hB
            have hElen := Nat.le_trans hE.len hk
            have HElen := Lib.hid hElen
            have HRw := Lib.hid (HRs.out.below (qb := qb) (by have := HLt.out; omega) (by have := HLt.out; omega) hB)
            have HQw := Lib.hid (blk_below HQ2.out hB)
            have HDone := Lib.hid hdone
            have HBw : Hid (Below w.heap.size w wr) := Lib.hid (bthen HB12.out hB)
            have Hbw2 : Hid (w2.heap.size ≤ wr.heap.size) := Lib.hid hB.size
            have q0 := blk_cell HQw.out 0
            have q1 := blk_cell HQw.out 1
            have r0 := blk_cell hMem.box 0
            have r1 := blk_cell hMem.box 1
            have r2 := blk_cell hMem.box 2
            have r3 := blk_cell hMem.box 3
            simp at q0 q1 r0 r1 r2 r3
            obtain ⟨Ae, ce, rfl⟩ := own_slice hMem.ents
            have hbal : Hid (bl.length = s.born.length) := Lib.hid (by rw [← HBl.out]; simp)
            obtain ⟨ne, hne⟩ : ∃ ne, t.ents.length = ne := ⟨_, rfl⟩
            have Hne := Lib.hid hne
            rw [hne] at r3 HMe
            clear hE hMem hB hdone hk2 hElen hne q20 c2 i2 HOf
            go_upto_if 142 with fail
            clear hlt
            go_cut [21] (fun v21 wx => RecsAt w.heap.size (recsOf s.born t.ents) v21 wx ∧ MarksAt wx qb w2.heap.size (.slice Aof s.of.length cof) s.of t.will ∧ Below w.heap.size w wx)
            case first =>
              by_cases hes : t.ents = []
              · have hne0 : ne = 0 := by rw [← Hne.out, hes]; rfl
                subst hne0
                have hend : RecsAt w.heap.size (recsOf s.born t.ents) bornv wr := by
                  unfold recsOf; rw [if_pos hes, ← HBl.out]; exact recs_none HRw.out HaB.out
                have hmk := (marks_of (row := none) HQw.out HRw.out.of HMe.out (World.grownBy.refl _ _) (fun k e => by cases e)).1
                have HEnd := Lib.hid hend
                have HMk := Lib.hid hmk
                clear hes hend hmk
                go_wp2_with fail
                go_meet
                exact ⟨HEnd.out, HMk.out, HBw.out⟩
              · have hne0 : (0 : Int) < (ne : Int) := by
                  have : 0 < t.ents.length := List.length_pos_iff.2 hes
                  rw [Hne.out] at this; omega
                have HRO : Hid (recsOf s.born t.ents = bl.map RecV.r ++ [⟨2, 0, [], t.ents⟩]) := Lib.hid (by unfold recsOf; rw [if_neg hes, ← HBl.out])
                have hba : Below wr.heap.size wr (wr.alloc (.cells #[.int .i64 2, .int .u32 0, .slice none 0 0, .slice Ae ne ce] 45)) := balloc (Below.refl _ _) _
                have HBa := Lib.hid hba
                have HRa := Lib.hid (HRw.out.below (qb := qb) (by have := HLt.out; omega) (by have := HLt.out; omega) hba)
                have HQa := Lib.hid (blk_below HQw.out hba)
                have HMa := Lib.hid (HMe.out.below hba)
                have HSrc : Hid (SrcAt (wr.alloc (.cells #[.int .i64 2, .int .u32 0, .slice none 0 0, .slice Ae ne ce] 45)) (.slice (some ⟨wr.heap.size, 0, none⟩) 1 1) 1 4 (RecV.enc ⟨⟨2, 0, [], t.ents⟩, .slice none 0 0, .slice Ae ne ce⟩)) := Lib.hid (src_block (m := 1) (size := 4) (blk_new wr (.cells #[.int .i64 2, .int .u32 0, .slice none 0 0, .slice Ae ne ce] 45 (0, 0))) rfl (recV_one ⟨⟨2, 0, [], t.ents⟩, .slice none 0 0, .slice Ae ne ce⟩ rfl rfl) 1)
                clear hes hba
                go_wp2_with (at_builtin; refine wpList_app (w0 := wr.alloc (.cells #[.int .i64 2, .int .u32 0, .slice none 0 0, .slice Ae ne ce] 45)) B rfl _ _ 32 45 _ 4 64 1 (RecV.enc ⟨⟨2, 0, [], t.ents⟩, .slice none 0 0, .slice Ae ne ce⟩) rfl Tryz.underlying32 info_rec rfl (by decide) (by decide) bornv bl.length (bl.flatMap RecV.enc) ?hs2 ?hx2 HRa.out.born (Below.refl _ _) HRa.out.lt.2 (by have := hbal.out; have := HPv.out.2.2.2; have h5 := Hn.out; rw [List.length_map, ← h5] at this; omega) ?_)
                case hs2 => rfl
                case hx2 => exact HSrc.out
                intro v6 w6 hO6 hB6 hg6 hat6
                have hmk := marks_of (row := bornv.ownBlock) HQa.out HRa.out.of HMa.out hg6 (fun k e => by
                  have h1 := ownsRow_blk HRs.out.born k e
                  have h2 := HLt.out
                  have h3 := HaB.out
                  exact ⟨by omega, fun e2 => HRa.out.sep k e2 e, by omega, h1.2⟩)
                have hend := recs_one HRa.out hO6 hg6 hmk.2 HaB.out HMa.out.le.1
                rw [← HRO.out] at hend
                have HEnd := Lib.hid hend
                have HMk := Lib.hid hmk.1
                have HB6 : Hid (Below w.heap.size w w6) := Lib.hid ((bthen HBw.out HBa.out).trans (hB6.mono HaB.out))
                clear hO6 hB6 hg6 hat6 hmk hend
                go_wp2_with fail
                go_meet
                exact ⟨HEnd.out, HMk.out, HB6.out⟩
            case rest =>
              obtain ⟨hrecs, hmarks, hB6⟩ := hcut
              have HRecs := Lib.hid hrecs
              have HMarks := Lib.hid hmarks
              have HB6 := Lib.hid hB6
              have hres := HRes.out
              rw [if_neg (by rw [HDone.out]; simp), HDone.out] at hres
              simp only at hres
              have HRes' := Lib.hid hres
              have hall := wl_has H seq (l.zip s.of) [] ⟨[], []⟩ ⟨by simp⟩ (by rw [HDone.out])
              rw [HDone.out, List.nil_append] at hall
              have HAllH := Lib.hid hall
              clear hrecs hmarks hB6 hres hall q0 q1 r0 r1 r2 r3 HMe HRw HQw HBw Hbw2 hbal HDone HRes HRs HQ2
              generalize wc = w7 at *
              go_wp2_with fail
              go_loopw [22, 149] (fun v22 i wr => ∃ k : Nat, k ≤ n ∧ i = .int .i64 k ∧ MarksTo w7 t.will (l.zip s.of) k v22 wr) (fun _ i _ => n - (intOf i).toNat)
              case atStart => exact ⟨0, Nat.zero_le _, rfl, MarksTo.start _ _ _⟩
              case round =>
                obtain ⟨k, hk, rfl, hE⟩ := hrel
                by_cases hlt : k < n
                · have hkl : k < l.length := by rw [← Hn.out]; exact hlt
                  have hkz : k < (l.zip s.of).length := by rw [Hzl.out]; exact hlt
                  have hko : k < s.of.length := by rw [Hofl.out]; exact hlt
                  have hpk : (l.zip s.of)[k] = (l[k], s.of[k]) := List.getElem_zip
                  have hB := hE.below
                  have hm1 := later hB HMarks.out.1
                  obtain ⟨ms, mc, ho7, hM7⟩ := HMarks.out.2.2
                  obtain ⟨b, off, rfl, z0, z1, z2, z3⟩ := rdO_at (Rd.below HR.out (bthen HB6.out hB)) hkl
                  obtain ⟨Aof2, cof2, eof2, -, -, -, -, g5⟩ := HMarks.out.2.1
                  cases eof2
                  obtain ⟨b3, off3, rfl, zq7⟩ := rdU_at g5 hko
                  have hb3 := World.block_lt_of_cell? _ _ zq7
                  have zq := later hB zq7
                  obtain ⟨m, qp, hgm, hri, hml, hhas, hqp, hmk⟩ := mark_at HAllH.out hkz
                  rw [hpk] at hgm hhas hqp hmk
                  simp only at hgm hhas hqp hmk
                  have hadd := marks_add t.will (l.zip s.of) k hkz
                  rw [hpk, hmk] at hadd
                  have hx := (HL.out _ (List.getElem_mem hkl)).1
                  generalize s.of[k] = q at *
                  generalize l[k] = x at *
                  obtain ⟨xat, xv, lab, xT, xV⟩ := x
                  simp only at z0 z1 z2 z3 hx hgm hhas hqp hadd
                  obtain ⟨Axv, cxv, rfl, -⟩ := hx
                  obtain ⟨vv, -, hvl, -, hvs⟩ := lookup_all keyU Tryz.underlying88 zeroPoints w2.heap.size hM7 (a := q) trivial (fun _ _ => trivial)
                  obtain ⟨⟨Am, cm, rfl, k1, k2, k3, k4, k5⟩, -⟩ := hvs m hgm
                  have hlo : lowP m xT < m.length := (List.getElem?_eq_some_iff.1 hqp).1
                  obtain ⟨bm, om, rfl, -, w1c, -⟩ := RdP.at_ k5 hlo
                  rw [(List.getElem?_eq_some_iff.1 hqp).2] at w1c
                  have hbm := World.block_lt_of_cell? _ _ w1c
                  have hfind := fun (W : World) (hW : Below w7.heap.size w7 W) => points_find (some ⟨bm, om, none⟩) cm m xT W (RdP.below k5 hW) (by omega) hri
                  rw [hhas] at hfind
                  have hom := blk_below ho7 hB
                  obtain ⟨bz, hbz⟩ : ∃ bz, (qp.V == xV) = bz := ⟨_, rfl⟩
                  have hmkz : decide (qp.V = xV) = bz := hbz
                  rw [hmkz] at hadd
                  have HAdd := Lib.hid hadd
                  have HFind := Lib.hid hfind
                  have HE := Lib.hid hE
                  have HBr := Lib.hid hB
                  have Hbm := Lib.hid hbm
                  have Hb3 := Lib.hid hb3
                  rw [Hofl.out] at hm1
                  have hlo' : ((lowP m xT : Nat) : Int) < (m.length : Int) := by omega
                  have wc1 := later hB w1c
                  have hbq := World.block_lt_of_cell? _ _ HMarks.out.1
                  have Hbq := Lib.hid hbq
                  clear hE hB hadd hfind hmkz hqp hhas hgm hri hml k1 k2 k3 k4 k5 hM7 ho7 zq7 g5 hpk hlo w1c hbm hb3 hbq hmk
                  generalize lowP m xT = lo at *
                  generalize m.length = nm at *
                  generalize lab.length = nlab at *
                  generalize qp.V = qV at *
                  have hbw : Below wr.heap.size wr (wr.alloc (.cells #[.int .i64 xat, .slice Axv nlab cxv, .int .i64 xT, .int .u64 xV] 77)) := balloc (Below.refl _ _) _
                  have HBw := Lib.hid hbw
                  have v0 : (wr.alloc (.cells #[.int .i64 xat, .slice Axv nlab cxv, .int .i64 xT, .int .u64 xV] 77)).cell? ⟨wr.heap.size, 0, none⟩ = some (.int .i64 xat) := by simp
                  have v2 : (wr.alloc (.cells #[.int .i64 xat, .slice Axv nlab cxv, .int .i64 xT, .int .u64 xV] 77)).cell? ⟨wr.heap.size, 2, none⟩ = some (.int .i64 xT) := by simp
                  have v3 : (wr.alloc (.cells #[.int .i64 xat, .slice Axv nlab cxv, .int .i64 xT, .int .u64 xV] 77)).cell? ⟨wr.heap.size, 3, none⟩ = some (.int .u64 xV) := by simp
                  have y1 := later hbw hm1
                  have y2 := later hbw zq
                  have y3 := later hbw wc1
                  have ho1 := blk_below hom hbw
                  clear hm1 zq wc1 hom hbw
                  go_upto_region 39 with fail
                  generalize wr.alloc (.cells #[.int .i64 xat, .slice Axv nlab cxv, .int .i64 xT, .int .u64 xV] 77) = W at *
                  have x1 : W.drew.cell? ⟨qb, 0, none⟩ = some (.slice (some ⟨b3, off3, none⟩) n cof) := y1
                  have x2 : W.drew.cell? ⟨b3, off3 + k, none⟩ = some (.int .u64 q) := y2
                  have x3 : W.drew.cell? ⟨wr.heap.size, 2, none⟩ = some (.int .i64 xT) := v2
                  have hvl1 := hvl W.drew ho1
                  go_region_held3 (fun w' => w'.cell? ⟨qb, 0, none⟩ = some (.slice (some ⟨b3, off3, none⟩) n cof) ∧ w'.cell? ⟨b3, off3 + k, none⟩ = some (.int .u64 q) ∧ w'.cell? ⟨wr.heap.size, 2, none⟩ = some (.int .i64 xT)) (first | exact ⟨x1, x2, x3⟩ | exact ⟨later hb' x1, later hb' x2, later hb' x3⟩)
                    (first | (go_at_call 40; refine (HFind.out _ (bthen HBr.out (bthen HBw.out (bdrew (Below.refl _ _))))).mono ?_; rintro e w' ⟨rfl, hb'⟩))
                  generalize w' = w8 at *
                  have hB8 := bthen HBr.out (bthen HBw.out (bthen (bdrew (Below.refl _ _)) hb'))
                  have d0 : w8.drew.cell? ⟨wr.heap.size, 0, none⟩ = some (.int .i64 xat) := later hb' (show W.drew.cell? _ = _ from v0)
                  have d1 : w8.drew.cell? ⟨qb, 0, none⟩ = some (.slice (some ⟨b3, off3, none⟩) n cof) := later hb' x1
                  have d2 : w8.drew.cell? ⟨b3, off3 + k, none⟩ = some (.int .u64 q) := later hb' x2
                  have d3 : w8.drew.cell? ⟨bm, om + lo * 3 + 1, none⟩ = some (.int .u64 qV) := later hb' (show W.drew.cell? _ = _ from y3)
                  have d4 : w8.drew.cell? ⟨wr.heap.size, 3, none⟩ = some (.int .u64 xV) := later hb' (show W.drew.cell? _ = _ from v3)
                  have hvl2 := hvl w8.drew (blk_below (w1 := w8) (w := W.drew) ho1 hb')
                  have HO8 := Lib.hid (own_below (own_below (own_below HE.out.own HBw.out) (bdrew (Below.refl _ _))) hb')
                  have Nv : Hid (some wr.heap.size ≠ u22.ownBlock) := Lib.hid (fun e => by have := ownsRow_blk HE.out.own _ e.symm; omega)
                  have Nq : Hid (some qb ≠ u22.ownBlock) := Lib.hid (own_ne HE.out.own Hbq.out)
                  have N3 : Hid (some b3 ≠ u22.ownBlock) := Lib.hid (own_ne HE.out.own Hb3.out)
                  have Nm : Hid (some bm ≠ u22.ownBlock) := Lib.hid (own_ne HE.out.own Hbm.out)
                  have HB8 := Lib.hid hB8
                  have Hkn : Hid (k < n) := Lib.hid hlt
                  clear v0 v2 v3 y1 y2 y3 x1 x2 x3 hvl1 ho1 hb' hB8 hvl hvs
                  go_wp2_with fail
                  go_region_held3 (fun w' => w'.cell? ⟨wr.heap.size, 0, none⟩ = some (.int .i64 xat) ∧ w'.cell? ⟨qb, 0, none⟩ = some (.slice (some ⟨b3, off3, none⟩) n cof) ∧ w'.cell? ⟨b3, off3 + k, none⟩ = some (.int .u64 q) ∧ w'.cell? ⟨bm, om + lo * 3 + 1, none⟩ = some (.int .u64 qV) ∧ w'.cell? ⟨wr.heap.size, 3, none⟩ = some (.int .u64 xV))
                    (first | exact ⟨d0, d1, d2, d3, d4⟩ | exact ⟨t0, t1, t2, t3, t4⟩ | exact ⟨later (w1 := (w8.alloc _).drew) (balloc (Below.refl _ _) _) d0, later (w1 := (w8.alloc _).drew) (balloc (Below.refl _ _) _) d1, later (w1 := (w8.alloc _).drew) (balloc (Below.refl _ _) _) d2, later (w1 := (w8.alloc _).drew) (balloc (Below.refl _ _) _) d3, later (w1 := (w8.alloc _).drew) (balloc (Below.refl _ _) _) d4⟩)
                    (first | (refine step_app2 (o := ⟨some 193, _, _, _, _, _⟩) (w0 := w8) (W0 := w8) w7.heap.size rfl _ _ 33 79 _ 2 16 1 (Mk.enc ⟨xat, bz⟩) rfl Tryz.underlying33 info_mk rfl (by decide) (by decide) u22 k _ rfl _ rfl ?_ HO8.out (Below.refl _ _) HB8.out.size ?_ ?_ ?_; (exact src_block (blk_new _ _) rfl (mk_one ⟨xat, bz⟩) 1); (exact bdrew (balloc (Below.refl _ _) _)); (have := Hkn.out; omega); intro v9 w9 hO9 hB9 hg9 hat9; have t0 := hg9.cell (later (w1 := (w8.alloc _).drew) (balloc (Below.refl _ _) _) d0) Nv.out; have t1 := hg9.cell (later (w1 := (w8.alloc _).drew) (balloc (Below.refl _ _) _) d1) Nq.out; have t2 := hg9.cell (later (w1 := (w8.alloc _).drew) (balloc (Below.refl _ _) _) d2) N3.out; have t3 := hg9.cell (later (w1 := (w8.alloc _).drew) (balloc (Below.refl _ _) _) d3) Nm.out; have t4 := hg9.cell (later (w1 := (w8.alloc _).drew) (balloc (Below.refl _ _) _) d4) Nv.out))
                  have HFin : Hid (MarksTo w7 t.will (l.zip s.of) (k + 1) v9 w9) := Lib.hid ⟨by rw [HAdd.out]; exact hO9, HB8.out.trans hB9⟩
                  clear hO9 hB9 hg9 hat9 t0 t1 t2 t3 t4
                  go_wp2_with fail
                  go_roundw
                  case rel => exact ⟨k + 1, by omega, by go_num, HFin.out⟩
                  case measure => simp [intOf] <;> omega
                · have hkk : (l.zip s.of).take k = l.zip s.of := List.take_of_length_le (by rw [Hzl.out]; omega)
                  have hown := hE.own
                  rw [hkk] at hown
                  have hmks : Slc 2 Mk.enc wr (fun k => w.heap.size ≤ k) u22 ((l.zip s.of).map (markOf t.will)) := (own_slc mk_len (by have h5 := Hzl.out; rw [List.length_map, h5]; omega) hown).mono (fun k _ hk => Nat.le_trans HB6.out.size hk)
                  obtain ⟨rl, hr1, hr2, hr3⟩ := HRecs.out.below hE.below
                  have HFin : Hid (PlanPost w res (.returned (.tuple #[u21, u22, .int .i64 0])) wr) := Lib.hid (by
                    rw [HRes'.out]
                    exact ⟨_, _, rl, rfl, hr1, hr2, hr3, hmks, bthen HB6.out hE.below⟩)
                  clear hkk hown hmks hr1 hr2 hr3 hE
                  go_wp2_with fail
                  go_ret3
                  exact HFin.out
theorem head_plan {D : Nat → Prop} {X : List Nat} {o : HLoc} {H : Hd} (seq : Int) (v : Value) (l : List Po) (w : World) (h : HeadAt w X o H) (hv : Slc 4 Po.enc w D v l) (hl : PoOk w D l) (hT : Tabs w) (h2 : 2 ≤ w.heap.size) (ht : 0 ≤ H.top ∧ H.top ≤ 4294967295) (hall : H.ix.all.length ≤ 1000000) :
    Calls Tryz.prog 11 #[.pointer (some ⟨o.hp, 0, none⟩), .int .u64 seq, v] w (PlanPost w (planF H seq l)) := by
  by_cases h16 : 16 < l.length
  · exact plan_early seq v l w h hv (.inl h16)
  · by_cases h0 : seq = 0
    · exact plan_early seq v l w h hv (.inr h0)
    · exact plan_late seq v l w h hv hl hT h2 ht hall h16 h0
end Go.Proofs.YtbjglcdoekbloaaGreatDoor
