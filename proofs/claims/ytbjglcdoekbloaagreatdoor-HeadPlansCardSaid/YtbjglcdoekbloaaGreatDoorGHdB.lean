import Derived.Test.YtbjglcdoekbloaaGreatDoorGHdA
import Derived.IntWalk
set_option linter.unusedSimpArgs false
set_option linter.unusedVariables false
set_option linter.unusedSectionVars false
/- head.Head.Record, of points. -/
namespace Go.Proofs.YtbjglcdoekbloaaGreatDoor
open Go.RowKit Go.Proofs.YtbjglcdoekbloaaGreatDoor.MapRaw Go.ChangeMaps

theorem check_points {r : Rec} (h0 : checkF r = 0) (h1 : r.kind ≠ 1) : r.kind = 2 ∧ r.pts.length ≤ 256 := by
  unfold checkF at h0
  rw [if_neg h1] at h0
  by_cases h2 : r.kind = 2
  · rw [if_pos h2] at h0
    refine ⟨h2, ?_⟩
    by_cases h3 : r.ref ≠ 0 ∨ r.lab ≠ [] ∨ r.pts = []
    · rw [if_pos h3] at h0; cases h0
    · rw [if_neg h3] at h0
      by_cases h4 : 256 < r.pts.length
      · rw [if_pos h4] at h0; cases h0
      · omega
  · rw [if_neg h2] at h0; cases h0
theorem setB_below {B b : Nat} {w W : World} {o : Obj} (h : Below B w W) (hb : B ≤ b) : Below B w (setBlock W b o) :=
  h.trans ⟨rfl, rfl, rfl, by rw [setBlock_size]; exact Nat.le_refl _, fun k hk => setBlock_ne (by omega) o⟩
theorem cntF_le (l : List Int) (r : Int) : cntF l r ≤ l.length := List.length_filter_le _ _

/-- the points of a head turn -/
theorem in_pts {W W' : World} {X : List Nat} {o : HLoc} {H : Hd} {m' : List (Int × List Pt)} {es : Array MapEntry} {c : Nat} (h : InAt W X o H) (hM : IsMap eU (evP W X) es c m') (hW : W' = setBlock W o.pb (.map es c)) : InAt W' X o ⟨H.ix, m', H.top⟩ := by
  subst hW
  obtain ⟨m1, m2, m3, m4⟩ := h.mem
  obtain ⟨n1, n2, n3⟩ := h.ne
  have keep : ∀ k, k ≠ o.pb → (setBlock W o.pb (.map es c)).heap[k]? = W.heap[k]? := fun k hne => setBlock_ne hne _
  have hsz : (setBlock W o.pb (.map es c)).heap.size = W.heap.size := setBlock_size _ _ _
  refine ⟨by rw [keep _ n1]; exact h.ic, ?_, ?_, h.mem, h.ne⟩
  · refine h.ix.move (by omega) (fun k hk hor => keep k ?_) (fun _ _ h => h) (fun _ h => h) (fun k hk => by rw [hsz]; exact h.ix.lt k hk)
    rcases hor with hk2 | rfl | hk2
    · exact fun e => hk2 (e ▸ m2)
    · exact fun e => m3 (e ▸ m2)
    · exact fun e => n3 (e ▸ hk2)
  · exact ⟨es, c, setBlock_at (h.ix.lt _ m2) _, hM.imp fun p _ v hv => hv.move (by omega) (fun k hk hkX => keep k (fun e => hkX (e ▸ m2))) (fun _ _ h => h)⟩
set_option maxRecDepth 100000 in
set_option maxHeartbeats 2000000 in
theorem head_record2 {X : List Nat} {o : HLoc} {H : Hd} (r : Rec) (lv pv : Value) (w : World) (h : HeadAt w X o H) (hl : SlL w (fun k => k ∉ X) lv r.lab) (hp : SlE w (fun k => k ∉ X) pv r.pts) (hz : SzL r.lab) (hT : Tabs w) (h2 : 2 ≤ w.heap.size) (hu : ∀ x ∈ r.pts, U32 x.ref) (hk0 : checkF r = 0) (hk1 : r.kind ≠ 1) :
    Calls Tryz.prog 21 #[.pointer (some ⟨o.hp, 0, none⟩), .agg #[.int .i64 r.kind, .int .u32 r.ref, lv, pv]] w (TurnPost w X o (recordF H r)) := by
  obtain ⟨hk2, hn⟩ := check_points hk0 hk1
  have e : recordF H r = ptsF H r.pts := by unfold recordF; rw [if_neg (by simp [hk0]), if_neg hk1]
  rw [e]
  have hck := fun (W : World) (hW : Below w.heap.size w W) => record_check r lv pv W (hl.below hW) (hp.below hW) hz (hT.below hW h2) (Nat.le_trans h2 hW.size)
  rw [hk0, hk2] at hck
  rw [hk2]
  obtain ⟨kind, ref, lab, pts⟩ := r
  simp only at *
  have c0 := blk_cell h.hc 0
  have i0 := blk_cell h.inn.ic 0
  have i1 := blk_cell h.inn.ic 1
  simp at c0 i0 i1
  have hlt := h.inn.ix.lt
  have HCK := Lib.hid hck
  have HX := Lib.hid hlt
  have HI := Lib.hid h
  have HU := Lib.hid hu
  obtain ⟨A, c, rfl, p1, p2, p3, p4, p5⟩ := hp
  have HR := Lib.hid p5
  have HSl : Hid (SlE w (fun k => k ∉ X) (.slice A pts.length c) pts) := Lib.hid ⟨A, c, rfl, p1, p2, p3, p4, p5⟩
  obtain ⟨n, hn'⟩ : ∃ n, n = pts.length := ⟨_, rfl⟩
  have Hn := Lib.hid hn'
  have HLab : ∀ (W : World) (q : Int), Below w.heap.size w W → Calls Tryz.prog 54 #[.pointer (some ⟨o.xb, 0, none⟩), .int .u64 q] W (LabelsPost W H.ix q) := fun W q hW => ix_labels q W (h.inn.ix.below hW)
  unfold LabelsPost at HLab
  have HL := Lib.hid HLab
  rw [← hn'] at HCK hn ⊢
  clear e hck hlt h hl hz hT hu hk0 hk1 hk2 p1 p2 p3 p4 p5 hn' HLab
  have hmm := @run_makeMap Tryz.prog
  go_enter Tryz.func21, Tryz.ntmps21
  have HB0 : Below w.heap.size w (w.alloc (.cells #[.int .i64 2, .int .u32 ref, lv, .slice A n c] 45)) := balloc (Below.refl _ _) _
  have a0 := later HB0 c0
  go_wp2_with fail
  refine (head_is _ _ _ a0).mono ?_
  rintro e w' ⟨rfl, rfl⟩
  go_wp2_with fail
  refine (HCK.out _ HB0).mono ?_
  rintro e w1 ⟨rfl, hB1⟩
  obtain ⟨d0, d1, d2, d3, hB, hs1⟩ := new4 hB1
  go_wp2
  have HB0' : Below w.heap.size w (w1.alloc (.map #[] 0)) := balloc hB _
  have q3 : (w1.alloc (.map #[] 0)).cell? ⟨w.heap.size, 3, none⟩ = some (.slice A n c) := later (balloc (Below.refl _ _) _) d3
  have HM0 : Hid (MapAt (w1.alloc (.map #[] 0)) eU evN w1.heap.size (moreF ((pts.take 0).map En.ref))) := Lib.hid ⟨_, _, blk_new _ _, IsMap.empty⟩
  have HBB0 := Lib.hid HB0'
  have Hmb : Hid (w.heap.size < w1.heap.size) := Lib.hid hs1
  clear d0 d1 d2 d3 hB hB1 HB0 HB0' a0 hs1
  generalize hmb : w1.heap.size = mb at *
  clear hmb
  generalize w1.alloc (.map #[] 0) = w0 at *
  go_loopw [41] (fun i wr => ∃ k : Nat, k ≤ n ∧ i = .int .i64 k ∧ AnyTo (lostB H) pts k ∧ MapAt wr eU evN mb (moreF ((pts.take k).map En.ref)) ∧ Below w.heap.size w wr ∧ wr.cell? ⟨w.heap.size, 3, none⟩ = some (.slice A n c)) (fun i _ => n - (intOf i).toNat)
  case atStart => exact ⟨0, Nat.zero_le _, rfl, AnyTo.start _ _, HM0.out, HBB0.out, q3⟩
  case round =>
    obtain ⟨k, hk, rfl, hE, hM, hB, hc3⟩ := hrel
    clear q3
    by_cases hlt : k < n
    · have hkl : k < pts.length := by rw [← Hn.out]; exact hlt
      obtain ⟨b, off, rfl, z0, z1, z2, z3⟩ := rdE_at (Rd.below HR.out hB) hkl
      have hux := (HU.out _ (List.getElem_mem hkl)).wrap
      have HTK := Lib.hid (moreF_take pts k hkl)
      have hcl : cntF ((pts.take k).map En.ref) pts[k].ref ≤ n := by
        refine Nat.le_trans (cntF_le _ _) ?_
        simp; omega
      have hRd := hE.round hkl
      obtain ⟨es, cc, ho, hMo, hlk⟩ := more_look hM pts[k].ref
      rw [moreF_get] at hlk HTK
      generalize cntF ((pts.take k).map En.ref) pts[k].ref = q at *
      generalize pts[k] = x at *
      have HMo := Lib.hid hMo
      have HBr := Lib.hid hB
      have e0 := later hB c0
      have e1 := later hB i0
      clear hM hMo hB hE
      rcases hRd with ⟨g1, g2⟩ | ⟨g1, g2⟩
      · have hlab := fun (W : World) (hW : Below w.heap.size w W) => HL.out W x.ref hW
        have hn1 : (mget H.ix.all x.ref).isSome = false := by unfold lostB at g1; cases hg : mget H.ix.all x.ref <;> simp_all
        rw [hn1] at hlab
        have HLx := Lib.hid hlab
        have hfin : ptsF H pts = (101, H) := by unfold ptsF; rw [if_pos g2]
        clear hlab hn1 g1 g2 HL
        rw [hfin]
        go_wp2
        have HBw : Below wr.heap.size wr (wr.alloc (.cells #[.int .u32 x.ref, .int .i64 x.p.T, .int .u64 x.p.V, .int .u64 x.p.S] 100)) := balloc (Below.refl _ _) _
        have v0 : (wr.alloc (.cells #[.int .u32 x.ref, .int .i64 x.p.T, .int .u64 x.p.V, .int .u64 x.p.S] 100)).cell? ⟨wr.heap.size, 0, none⟩ = some (.int .u32 x.ref) := by simp
        generalize wr.alloc (.cells #[.int .u32 x.ref, .int .i64 x.p.T, .int .u64 x.p.V, .int .u64 x.p.S] 100) = W at *
        have y0 : W.drew.cell? ⟨o.hp, 0, none⟩ = some (.pointer (some ⟨o.ib, 0, none⟩)) := later HBw e0
        have y1 : W.drew.cell? ⟨o.ib, 0, none⟩ = some (.pointer (some ⟨o.xb, 0, none⟩)) := later HBw e1
        have y2 : W.drew.cell? ⟨wr.heap.size, 0, none⟩ = some (.int .u32 x.ref) := v0
        have y3 : W.drew.cell? ⟨w.heap.size, 3, none⟩ = some (.slice (some ⟨b, off, none⟩) n c) := later HBw hc3
        have yo : W.drew.heap[mb]? = some (.map es cc) := blk_below (w1 := W.drew) ho (bdrew HBw)
        have HBw1 : Hid (Below w.heap.size w W.drew) := Lib.hid (bdrew (bthen HBr.out HBw))
        have Hsz : Hid (wr.heap.size < W.heap.size) := Lib.hid (World.block_lt_of_cell? W ⟨wr.heap.size, 0, none⟩ v0)
        clear HBw v0 hc3 ho e0 e1
        go_region_held3 (fun w' => w'.cell? ⟨o.hp, 0, none⟩ = some (.pointer (some ⟨o.ib, 0, none⟩)) ∧ w'.cell? ⟨o.ib, 0, none⟩ = some (.pointer (some ⟨o.xb, 0, none⟩)) ∧ w'.cell? ⟨wr.heap.size, 0, none⟩ = some (.int .u32 x.ref)) (first | exact ⟨y0, y1, y2⟩ | exact ⟨later hb' y0, later hb' y1, later hb' y2⟩)
          (first | (go_at_call 54; refine (HLx.out _ HBw1.out).mono ?_; rintro e w' ⟨v1, rfl, _, hb'⟩))
        go_wp2
        go_ret
        exact TurnPost.same rfl HI.out.inn (bthen HBw1.out hb')
      · have hlab := fun (W : World) (hW : Below w.heap.size w W) => HL.out W x.ref hW
        have hn1 : (mget H.ix.all x.ref).isSome = true := by unfold lostB at g1; cases hg : mget H.ix.all x.ref <;> simp_all
        rw [hn1] at hlab
        have HLx := Lib.hid hlab
        have HE' := Lib.hid g2
        clear hlab hn1 g1 g2
        go_wp2
        have HBw : Below wr.heap.size wr (wr.alloc (.cells #[.int .u32 x.ref, .int .i64 x.p.T, .int .u64 x.p.V, .int .u64 x.p.S] 100)) := balloc (Below.refl _ _) _
        have v0 : (wr.alloc (.cells #[.int .u32 x.ref, .int .i64 x.p.T, .int .u64 x.p.V, .int .u64 x.p.S] 100)).cell? ⟨wr.heap.size, 0, none⟩ = some (.int .u32 x.ref) := by simp
        generalize wr.alloc (.cells #[.int .u32 x.ref, .int .i64 x.p.T, .int .u64 x.p.V, .int .u64 x.p.S] 100) = W at *
        have y0 : W.drew.cell? ⟨o.hp, 0, none⟩ = some (.pointer (some ⟨o.ib, 0, none⟩)) := later HBw e0
        have y1 : W.drew.cell? ⟨o.ib, 0, none⟩ = some (.pointer (some ⟨o.xb, 0, none⟩)) := later HBw e1
        have y2 : W.drew.cell? ⟨wr.heap.size, 0, none⟩ = some (.int .u32 x.ref) := v0
        have y3 : W.drew.cell? ⟨w.heap.size, 3, none⟩ = some (.slice (some ⟨b, off, none⟩) n c) := later HBw hc3
        have yo : W.drew.heap[mb]? = some (.map es cc) := blk_below (w1 := W.drew) ho (bdrew HBw)
        have HBw1 : Hid (Below w.heap.size w W.drew) := Lib.hid (bdrew (bthen HBr.out HBw))
        have Hsz : Hid (wr.heap.size < W.heap.size) := Lib.hid (World.block_lt_of_cell? W ⟨wr.heap.size, 0, none⟩ v0)
        clear HBw v0 hc3 ho e0 e1
        go_region_held3 (fun w' => w'.cell? ⟨o.hp, 0, none⟩ = some (.pointer (some ⟨o.ib, 0, none⟩)) ∧ w'.cell? ⟨o.ib, 0, none⟩ = some (.pointer (some ⟨o.xb, 0, none⟩)) ∧ w'.cell? ⟨wr.heap.size, 0, none⟩ = some (.int .u32 x.ref)) (first | exact ⟨y0, y1, y2⟩ | exact ⟨later hb' y0, later hb' y1, later hb' y2⟩)
          (first | (go_at_call 54; refine (HLx.out _ HBw1.out).mono ?_; rintro e w' ⟨v1, rfl, _, hb'⟩))
        have ho' := blk_below yo hb'
        have hlk' := hlk w' ho'
        obtain ⟨es', c', hup, hM'⟩ := update_all keyU Tryz.underlying90 mb HMo.out (a := x.ref) trivial (fun _ _ => trivial) (x := (q : Int) + 1) (v := .int .i64 ((q : Int) + 1)) rfl
        have hup' := hup w' ho'
        have HM' := Lib.hid hM'
        have HT' := Lib.hid (setBlock_at (Array.getElem?_eq_some_iff.1 ho').1 (.map es' c'))
        clear hup hM'
        go_wp2
        go_roundw
        case rel => exact ⟨k + 1, by omega, by go_num, HE'.out, ⟨es', c', HT'.out, by rw [HTK.out]; exact HM'.out⟩, setB_below (bthen HBw1.out hb') (by have := Hmb.out; omega), cell_setBlock (by have := Hmb.out; omega) (later hb' y3)⟩
        case measure => simp [intOf]; omega
    · have hEd := hE.done (by rw [← Hn.out]; exact hlt)
      have hkk : pts.take k = pts := List.take_of_length_le (by rw [← Hn.out]; omega)
      rw [hkk] at hM
      have HE1 := Lib.hid hEd
      have HMA := Lib.hid hM
      have HBA := Lib.hid hB
      have HIA := Lib.hid (HI.out.below hB)
      clear hE hkk hM hEd
      go_wp2
      clear hlt hk
      generalize wr = wA at *
      go_loopw [71] (fun i wr => ∃ k : Nat, k ≤ n ∧ i = .int .i64 k ∧ AnyTo (muchB H pts) pts k ∧ Below wA.heap.size wA wr) (fun i _ => n - (intOf i).toNat)
      case atStart => exact ⟨0, Nat.zero_le _, rfl, AnyTo.start _ _, Below.refl _ _⟩
      case round =>
        obtain ⟨k, hk, rfl, hE, hB2⟩ := hrel
        clear hB
        by_cases hlt : k < n
        · have hkl : k < pts.length := by rw [← Hn.out]; exact hlt
          obtain ⟨b, off, rfl, z0, z1, z2, z3⟩ := rdE_at (Rd.below HR.out (bthen HBA.out hB2)) hkl
          have hux := (HU.out _ (List.getElem_mem hkl)).wrap
          have hcl : cntF (pts.map En.ref) pts[k].ref ≤ n := by
            refine Nat.le_trans (cntF_le _ _) ?_
            simp [Hn.out]
          have hRd := hE.round hkl
          obtain ⟨es, cc, ho, _, hlk⟩ := more_look (HMA.out.move (hB2.block _ HMA.out.blk) (fun _ _ _ h => h)) pts[k].ref
          obtain ⟨ep, cp, pv, hop, _, hev, hlp⟩ := pts_look (HIA.out.below hB2).inn.pts pts[k].ref
          rw [moreF_get] at hlk
          have hmu : muchB H pts pts[k] = decide ((65536 : Int) < (((mget H.pts pts[k].ref).getD []).length : Int) + (cntF (pts.map En.ref) pts[k].ref : Int)) := rfl
          generalize cntF (pts.map En.ref) pts[k].ref = q at *
          generalize pts[k] = x at *
          generalize hlpl : (mget H.pts x.ref).getD [] = lp at *
          have hlen := hev.2
          obtain ⟨A2, c2, rfl, -⟩ := hev.1
          obtain ⟨m2, hm2⟩ : ∃ m2, m2 = lp.length := ⟨_, rfl⟩
          rw [← hm2] at hlen hmu hlp
          have hsum : IntKind.i64.wrap ((m2 : Int) + (q : Int)) = (m2 : Int) + (q : Int) := IntWalk.i64_in _ (by omega)
          have e0 := later hB2 (blk_cell HIA.out.hc 0)
          have e1 := later hB2 (blk_cell HIA.out.inn.ic 1)
          simp at e0 e1
          have HB2 := Lib.hid hB2
          clear hE hB2 hev hlpl hm2
          rcases hRd with ⟨g1, g2⟩ | ⟨g1, g2⟩
          · rw [hmu] at g1
            have hfin : ptsF H pts = (5, H) := by unfold ptsF; rw [if_neg (by simp [HE1.out]), if_pos g2]
            clear hmu hlen g2
            rw [hfin]
            go_wp2
            have HBw : Below wr.heap.size wr (wr.alloc (.cells #[.int .u32 x.ref, .int .i64 x.p.T, .int .u64 x.p.V, .int .u64 x.p.S] 100)) := balloc (Below.refl _ _) _
            generalize wr.alloc (.cells #[.int .u32 x.ref, .int .i64 x.p.T, .int .u64 x.p.V, .int .u64 x.p.S] 100) = W at *
            have y0 : W.drew.cell? ⟨o.hp, 0, none⟩ = some (.pointer (some ⟨o.ib, 0, none⟩)) := later HBw e0
            have y1 : W.drew.cell? ⟨o.ib, 1, none⟩ = some (.map (some o.pb)) := later HBw e1
            have hlk1 := hlk W.drew (blk_below (w1 := W.drew) ho (bdrew HBw))
            have hlp1 := hlp W.drew (blk_below (w1 := W.drew) hop (bdrew HBw))
            have HBw1 := Lib.hid (bdrew HBw)
            clear HBw hlk hlp ho hop e0 e1
            go_region_held3 (fun w' => w'.cell? ⟨o.hp, 0, none⟩ = some (.pointer (some ⟨o.ib, 0, none⟩)) ∧ w'.cell? ⟨o.ib, 1, none⟩ = some (.map (some o.pb))) (exact ⟨y0, y1⟩) (fail)
            all_goals
              go_wp2
              go_ret
              exact TurnPost.same rfl HI.out.inn (bthen HBA.out (bthen HB2.out HBw1.out))
          · rw [hmu] at g1
            have HE' := Lib.hid g2
            clear hmu hlen g2
            go_wp2
            have HBw : Below wr.heap.size wr (wr.alloc (.cells #[.int .u32 x.ref, .int .i64 x.p.T, .int .u64 x.p.V, .int .u64 x.p.S] 100)) := balloc (Below.refl _ _) _
            generalize wr.alloc (.cells #[.int .u32 x.ref, .int .i64 x.p.T, .int .u64 x.p.V, .int .u64 x.p.S] 100) = W at *
            have y0 : W.drew.cell? ⟨o.hp, 0, none⟩ = some (.pointer (some ⟨o.ib, 0, none⟩)) := later HBw e0
            have y1 : W.drew.cell? ⟨o.ib, 1, none⟩ = some (.map (some o.pb)) := later HBw e1
            have hlk1 := hlk W.drew (blk_below (w1 := W.drew) ho (bdrew HBw))
            have hlp1 := hlp W.drew (blk_below (w1 := W.drew) hop (bdrew HBw))
            have HBw1 := Lib.hid (bdrew HBw)
            clear HBw hlk hlp ho hop e0 e1
            go_region_held3 (fun w' => w'.cell? ⟨o.hp, 0, none⟩ = some (.pointer (some ⟨o.ib, 0, none⟩)) ∧ w'.cell? ⟨o.ib, 1, none⟩ = some (.map (some o.pb))) (exact ⟨y0, y1⟩) (fail)
            all_goals
              go_wp2
              go_roundw
              case rel => exact ⟨k + 1, by omega, by go_num, HE'.out, bthen HB2.out HBw1.out⟩
              case measure => simp [intOf]; omega
        · have hEd := hE.done (by rw [← Hn.out]; exact hlt)
          have HE2 := Lib.hid hEd
          have HBB := Lib.hid hB2
          have HIB := Lib.hid (HIA.out.below hB2)
          have hc3' := later hB2 hc3
          clear hE hEd hB2
          have hSB := (HSl.out.below HBA.out).below HBB.out
          rw [← Hn.out] at hSB
          have HSB := Lib.hid hSB
          have HBT := Lib.hid (bthen HBA.out HBB.out)
          have HPB := Lib.hid HI.out.inn.mem
          clear hSB HSl
          go_wp2
          clear hlt hk hc3 hc3'
          generalize wr = wB at *
          go_loopw [97] (fun i wr => ∃ (k : Nat) (m : List (Int × List Pt)), k ≤ n ∧ i = .int .i64 k ∧ PutTo pts H.pts k m ∧ InAt wr X o ⟨H.ix, m, H.top⟩ ∧ Apart (fun b => b = o.pb) wB wr) (fun i _ => n - (intOf i).toNat)
          case atStart => exact ⟨0, H.pts, Nat.zero_le _, rfl, PutTo.start _ _, HIB.out.inn, Apart.refl _ _⟩
          case round =>
            obtain ⟨k, m, hk, rfl, hP, hIn, hA3⟩ := hrel
            by_cases hlt : k < n
            · have hkl : k < pts.length := by rw [← Hn.out]; exact hlt
              have hSr : SlE wr (fun k => k ∉ X) (.slice A n c) pts := Slc.move HSB.out hA3.size (fun k hk hkX => hA3.block k hk (fun e => hkX (by rw [e]; exact HPB.out.2.1)))
              obtain ⟨A1, c1, eq1, _, _, _, _, hr1⟩ := hSr
              cases eq1
              obtain ⟨b, off, rfl, z0, z1, z2, z3⟩ := rdE_at hr1 hkl
              have hux := (HU.out _ (List.getElem_mem hkl)).wrap
              obtain ⟨ep, cp, pv, hop, hMp, hev, hlp⟩ := pts_look hIn.pts pts[k].ref
              generalize hlpl : (mget m pts[k].ref).getD [] = lp at *
              have hRd := hP.round hkl rfl
              rw [hlpl] at hRd
              have hput := fun (W : World) (hW : Below wr.heap.size wr W) => points_put pv lp pts[k].p W (hev.1.below hW)
              unfold PutPost at hput
              have hrl := putF_len (p := pts[k].p) hev.2
              generalize pts[k] = x at *
              generalize putF lp x.p = r at *
              have HPut := Lib.hid hput
              have HEv := Lib.hid hev
              have HMp := Lib.hid hMp
              have HIn := Lib.hid hIn
              have HA3 := Lib.hid hA3
              have Hrl := Lib.hid hrl
              have Hlpl := Lib.hid hlpl
              have e0 := hA3.cell (g := o.hp) (fun e => HPB.out.2.2.2 (by rw [e]; exact HPB.out.2.1)) (blk_cell HIB.out.hc 0)
              have e1 := blk_cell hIn.ic 1
              simp at e0 e1
              clear hput hev hMp hIn hA3 hrl hlpl hP hr1
              rcases hRd with ⟨g1, g2⟩ | ⟨g1, g2⟩
              · have hfin : ptsF H pts = (r.2.2, ⟨H.ix, m, H.top⟩) := by unfold ptsF; rw [if_neg (by simp [HE1.out]), if_neg (by simp [HE2.out]), g2]
                have g1' : (r.2.2 != 0) = true := by simpa using g1
                clear g1 g2
                rw [hfin]
                go_wp2
                have HBw : Below wr.heap.size wr (wr.alloc (.cells #[.int .u32 x.ref, .int .i64 x.p.T, .int .u64 x.p.V, .int .u64 x.p.S] 100)) := balloc (Below.refl _ _) _
                have v1 : (wr.alloc (.cells #[.int .u32 x.ref, .int .i64 x.p.T, .int .u64 x.p.V, .int .u64 x.p.S] 100)).cell? ⟨wr.heap.size, 1, none⟩ = some (.int .i64 x.p.T) := by simp
                have v2 : (wr.alloc (.cells #[.int .u32 x.ref, .int .i64 x.p.T, .int .u64 x.p.V, .int .u64 x.p.S] 100)).cell? ⟨wr.heap.size, 2, none⟩ = some (.int .u64 x.p.V) := by simp
                have v3 : (wr.alloc (.cells #[.int .u32 x.ref, .int .i64 x.p.T, .int .u64 x.p.V, .int .u64 x.p.S] 100)).cell? ⟨wr.heap.size, 3, none⟩ = some (.int .u64 x.p.S) := by simp
                generalize wr.alloc (.cells #[.int .u32 x.ref, .int .i64 x.p.T, .int .u64 x.p.V, .int .u64 x.p.S] 100) = W at *
                have y0 : W.drew.cell? ⟨o.hp, 0, none⟩ = some (.pointer (some ⟨o.ib, 0, none⟩)) := later HBw e0
                have y1 : W.drew.cell? ⟨o.ib, 1, none⟩ = some (.map (some o.pb)) := later HBw e1
                have u1 : W.drew.cell? ⟨wr.heap.size, 1, none⟩ = some (.int .i64 x.p.T) := v1
                have u2 : W.drew.cell? ⟨wr.heap.size, 2, none⟩ = some (.int .u64 x.p.V) := v2
                have u3 : W.drew.cell? ⟨wr.heap.size, 3, none⟩ = some (.int .u64 x.p.S) := v3
                have hlp1 := hlp W.drew (blk_below (w1 := W.drew) hop (bdrew HBw))
                have hop1 : W.drew.heap[o.pb]? = some (.map ep cp) := blk_below (w1 := W.drew) hop (bdrew HBw)
                have HBw1 := Lib.hid (bdrew HBw)
                clear HBw hlp hop e0 e1 v1 v2 v3
                go_region_held3 (fun w' => w'.cell? ⟨o.hp, 0, none⟩ = some (.pointer (some ⟨o.ib, 0, none⟩)) ∧ w'.cell? ⟨o.ib, 1, none⟩ = some (.map (some o.pb)) ∧ w'.cell? ⟨wr.heap.size, 1, none⟩ = some (.int .i64 x.p.T) ∧ w'.cell? ⟨wr.heap.size, 2, none⟩ = some (.int .u64 x.p.V) ∧ w'.cell? ⟨wr.heap.size, 3, none⟩ = some (.int .u64 x.p.S)) (first | exact ⟨y0, y1, u1, u2, u3⟩ | exact ⟨later hb' y0, later hb' y1, later hb' u1, later hb' u2, later hb' u3⟩)
                  (first | (go_at_call 38; refine (HPut.out _ HBw1.out).mono ?_; rintro e w' ⟨v', rfl, hb', htr⟩; have HTr := Lib.hid htr; clear htr))
                go_wp2
                go_ret
                exact ⟨rfl, o, X, (HIn.out.below HBw1.out).below hb', ⟨rfl, rfl⟩, MoreX.refl _ _, ⟨((below_apart HBT.out _).trans HA3.out (fun i _ e => by rw [e]; exact pb_mem o)).then (bthen HBw1.out hb'), fun k hk => .inl hk⟩⟩
              · have g1' : (r.2.2 != 0) = false := by simpa using g1
                have HP' := Lib.hid g2
                rw [g1] at HPut
                clear g1 g2
                go_wp2
                have HBw : Below wr.heap.size wr (wr.alloc (.cells #[.int .u32 x.ref, .int .i64 x.p.T, .int .u64 x.p.V, .int .u64 x.p.S] 100)) := balloc (Below.refl _ _) _
                have v1 : (wr.alloc (.cells #[.int .u32 x.ref, .int .i64 x.p.T, .int .u64 x.p.V, .int .u64 x.p.S] 100)).cell? ⟨wr.heap.size, 1, none⟩ = some (.int .i64 x.p.T) := by simp
                have v2 : (wr.alloc (.cells #[.int .u32 x.ref, .int .i64 x.p.T, .int .u64 x.p.V, .int .u64 x.p.S] 100)).cell? ⟨wr.heap.size, 2, none⟩ = some (.int .u64 x.p.V) := by simp
                have v3 : (wr.alloc (.cells #[.int .u32 x.ref, .int .i64 x.p.T, .int .u64 x.p.V, .int .u64 x.p.S] 100)).cell? ⟨wr.heap.size, 3, none⟩ = some (.int .u64 x.p.S) := by simp
                generalize wr.alloc (.cells #[.int .u32 x.ref, .int .i64 x.p.T, .int .u64 x.p.V, .int .u64 x.p.S] 100) = W at *
                have y0 : W.drew.cell? ⟨o.hp, 0, none⟩ = some (.pointer (some ⟨o.ib, 0, none⟩)) := later HBw e0
                have y1 : W.drew.cell? ⟨o.ib, 1, none⟩ = some (.map (some o.pb)) := later HBw e1
                have u1 : W.drew.cell? ⟨wr.heap.size, 1, none⟩ = some (.int .i64 x.p.T) := v1
                have u2 : W.drew.cell? ⟨wr.heap.size, 2, none⟩ = some (.int .u64 x.p.V) := v2
                have u3 : W.drew.cell? ⟨wr.heap.size, 3, none⟩ = some (.int .u64 x.p.S) := v3
                have hlp1 := hlp W.drew (blk_below (w1 := W.drew) hop (bdrew HBw))
                have hop1 : W.drew.heap[o.pb]? = some (.map ep cp) := blk_below (w1 := W.drew) hop (bdrew HBw)
                have HBw1 := Lib.hid (bdrew HBw)
                clear HBw hlp hop e0 e1 v1 v2 v3
                go_region_held3 (fun w' => w'.cell? ⟨o.hp, 0, none⟩ = some (.pointer (some ⟨o.ib, 0, none⟩)) ∧ w'.cell? ⟨o.ib, 1, none⟩ = some (.map (some o.pb)) ∧ w'.cell? ⟨wr.heap.size, 1, none⟩ = some (.int .i64 x.p.T) ∧ w'.cell? ⟨wr.heap.size, 2, none⟩ = some (.int .u64 x.p.V) ∧ w'.cell? ⟨wr.heap.size, 3, none⟩ = some (.int .u64 x.p.S)) (first | exact ⟨y0, y1, u1, u2, u3⟩ | exact ⟨later hb' y0, later hb' y1, later hb' u1, later hb' u2, later hb' u3⟩)
                  (first | (go_at_call 38; refine (HPut.out _ HBw1.out).mono ?_; rintro e w' ⟨v', rfl, hb', htr⟩; have HTr := Lib.hid htr; clear htr))
                have hop2 := blk_below hop1 hb'
                have hev' : evP w' X r.1 v' := ⟨HTr.out _ (HEv.out.1.below HBw1.out) (fun k hk hkX => by have := HX.out k hkX; have := HBT.out.size; have := HA3.out.size; have := HBw1.out.size; omega), Hrl.out⟩
                have hMp' : IsMap eU (evP w' X) ep cp m := HMp.out.imp fun p _ v hv => hv.move (bthen HBw1.out hb').size (fun k hk _ => (bthen HBw1.out hb').block k hk) (fun _ _ h => h)
                obtain ⟨es', c', hup, hM'⟩ := update_all keyU Tryz.underlying88 o.pb hMp' (a := x.ref) trivial (fun _ _ => trivial) (x := r.1) (v := v') hev'
                have hup' := hup w' hop2
                have HM' := Lib.hid hM'
                clear hup hev' hMp' hM'
                go_wp2
                go_roundw
                case rel => exact ⟨k + 1, _, by omega, by go_num, HP'.out, in_pts (H := ⟨H.ix, m, H.top⟩) ((HIn.out.below HBw1.out).below hb') HM'.out rfl, (HA3.out.then (bthen HBw1.out hb')).setB _ (.inl rfl) _⟩
                case measure => simp [intOf]; omega
            · have hPd := hP.done (by rw [← Hn.out]; exact hlt)
              have hfin : ptsF H pts = (0, ⟨H.ix, m, H.top⟩) := by unfold ptsF; rw [if_neg (by simp [HE1.out]), if_neg (by simp [HE2.out]), hPd]
              have HF := Lib.hid hfin
              have HIn := Lib.hid hIn
              clear hPd hP hfin hIn
              go_wp2
              go_ret
              rw [HF.out]
              exact ⟨rfl, o, X, HIn.out, ⟨rfl, rfl⟩, MoreX.refl _ _, ⟨(below_apart HBT.out _).trans hA3 (fun i _ e => by rw [e]; exact pb_mem o), fun k hk => .inl hk⟩⟩
theorem head_record {X : List Nat} {o : HLoc} {H : Hd} (r : Rec) (lv pv : Value) (w : World) (h : HeadAt w X o H) (hl : SlL w (fun k => k ∉ X) lv r.lab) (hp : SlE w (fun k => k ∉ X) pv r.pts) (hz : SzL r.lab) (hT : Tabs w) (h2 : 2 ≤ w.heap.size) (hr : U32 r.ref) (hu : ∀ x ∈ r.pts, U32 x.ref) :
    Calls Tryz.prog 21 #[.pointer (some ⟨o.hp, 0, none⟩), .agg #[.int .i64 r.kind, .int .u32 r.ref, lv, pv]] w (TurnPost w X o (recordF H r)) := by
  by_cases hk : checkF r ≠ 0 ∨ r.kind = 1
  · exact head_record1 r lv pv w h hl hp hz hT h2 hr hk
  · exact head_record2 r lv pv w h hl hp hz hT h2 hu (Classical.byContradiction fun hc => hk (.inl hc)) (fun hc => hk (.inr hc))
theorem TurnRest.head {w w' : World} {X : List Nat} {o : HLoc} {H H' : Hd} (h : HeadAt w X o H) (hr : TurnRest w X o H' w') : ∃ o' X', HeadAt w' X' o' H' ∧ o'.hp = o.hp ∧ MoreX w X X' ∧ ApX o o' w w' := by
  obtain ⟨o', X', h1, ⟨h2, h3⟩, h4, h5⟩ := hr
  refine ⟨o', X', ⟨?_, h1⟩, h2, h4, h5⟩
  rw [h2, h3, h5.apart.block _ (Array.getElem?_eq_some_iff.1 h.hc).1 (fun hm => h.inn.mem.2.2.2 (h.inn.bsub _ hm))]
  exact h.hc
end Go.Proofs.YtbjglcdoekbloaaGreatDoor
