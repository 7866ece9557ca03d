import Derived.Test.YtbjglcdoekbloaaGreatDoorGLaA
import Derived.Test.YtbjglcdoekbloaaGreatDoorGLaB
set_option linter.unusedSimpArgs false
set_option linter.unusedVariables false
set_option linter.unusedSectionVars false
/- head.Head.All. -/
namespace Go.Proofs.YtbjglcdoekbloaaGreatDoor
open Go.RowKit Go.Proofs.YtbjglcdoekbloaaGreatDoor.MapRaw Go.ChangeMaps

/-- a series, with its slices -/
structure Sr where
  ref : Int
  lv : Value
  lab : List Lb
  pv : Value
  pts : List Pt
def Sr.enc (x : Sr) : List Value := [.int .u32 x.ref, x.lv, x.pv]
def Sr.key (x : Sr) : Int × List Lb × List Pt := (x.ref, x.lab, x.pts)
theorem sr_len (x : Sr) : x.enc.length = 3 := rfl
def SrOk (w : World) (D : Nat → Prop) (l : List Sr) : Prop := ∀ x ∈ l, SlL w D x.lv x.lab ∧ SlP w D x.pv x.pts
theorem SrOk.move {w w' : World} {D : Nat → Prop} {l : List Sr} (h : SrOk w D l) (hs : w.heap.size ≤ w'.heap.size) (hb : ∀ k, k < w.heap.size → D k → w'.heap[k]? = w.heap[k]?) : SrOk w' D l := fun x hx => ⟨(h x hx).1.move hs hb, (h x hx).2.move hs hb⟩
theorem SrOk.mono {w : World} {D D' : Nat → Prop} {l : List Sr} (h : SrOk w D l) (hD : ∀ k, k < w.heap.size → D k → D' k) : SrOk w D' l := fun x hx => ⟨(h x hx).1.mono hD, (h x hx).2.mono hD⟩
theorem SrOk.below {w w' : World} {D : Nat → Prop} {l : List Sr} (h : SrOk w D l) (hb : Below w.heap.size w w') : SrOk w' D l := fun x hx => ⟨(h x hx).1.below hb, (h x hx).2.below hb⟩
theorem sr_one (x : Sr) {w : World} {D : Nat → Prop} (h : SlL w D x.lv x.lab ∧ SlP w D x.pv x.pts) : ∀ u ∈ x.enc, u.oneCell' = true := by
  obtain ⟨⟨_, _, e1, _⟩, ⟨_, _, e2, _⟩⟩ := h
  intro u hu
  simp only [Sr.enc, List.mem_cons, List.not_mem_nil, or_false] at hu
  rcases hu with rfl | rfl | rfl
  · rfl
  · rw [e1]; rfl
  · rw [e2]; rfl
/-- a growing row of series -/
structure SrTo (w : World) (B : Nat) (v : Value) (l : List Sr) (wr : World) : Prop where
  own : wr.ownsRow B 66 3 v l.length (l.flatMap Sr.enc)
  ok : SrOk wr (fun k => B ≤ k ∧ some k ≠ v.ownBlock) l
  below : Below w.heap.size w wr
  le : w.heap.size ≤ B ∧ B ≤ wr.heap.size
theorem SrTo.then {w wr w2 : World} {B : Nat} {v : Value} {l : List Sr} (h : SrTo w B v l wr) (hb : Below wr.heap.size wr w2) : SrTo w B v l w2 :=
  ⟨own_below h.own hb, h.ok.below hb, bthen h.below hb, ⟨h.le.1, Nat.le_trans h.le.2 hb.size⟩⟩
theorem SrTo.add {w wr w4 w5 : World} {B : Nat} {v v5 : Value} {l : List Sr} {x : Sr} {o : Obj} (h : SrTo w B v l wr) (h4 : Below wr.heap.size wr w4) (hx : SlL w4 (fun k => wr.heap.size ≤ k) x.lv x.lab ∧ SlP w4 (fun k => wr.heap.size ≤ k) x.pv x.pts)
    (ho : w5.ownsRow B 66 3 v5 (l.length + 1) (l.flatMap Sr.enc ++ x.enc)) (hB : Below B wr w5) (hg : (w4.alloc o).grownBy w5 v.ownBlock) (hv : v5.ownBlock = v.ownBlock ∨ v5.ownBlock = some (w4.heap.size + 1)) : SrTo w B v5 (l ++ [x]) w5 := by
  have hb : Below w4.heap.size w4 (w4.alloc o) := balloc (Below.refl _ _) o
  have hA := (h.then h4).then hb
  have hle := h.le
  have hown : ∀ k, v.ownBlock = some k → B ≤ k ∧ k < wr.heap.size := fun k hk => ownsRow_blk h.own k hk
  have hsz := h4.size
  have hall : SrOk (w4.alloc o) (fun k => B ≤ k ∧ some k ≠ v.ownBlock) (l ++ [x]) := fun y hy => by
    rcases List.mem_append.1 hy with hy | hy
    · exact hA.ok y hy
    · simp at hy; subst hy
      have key : ∀ k, wr.heap.size ≤ k → B ≤ k ∧ some k ≠ v.ownBlock := fun k hk => ⟨by omega, fun e => by have := hown k e.symm; omega⟩
      exact ⟨(Slc.mono hx.1 (fun k _ hk => key k hk)).below hb, (Slc.mono hx.2 (fun k _ hk => key k hk)).below hb⟩
  refine ⟨by simpa using ho, ?_, h.below.trans (hB.mono hle.1), ⟨hle.1, Nat.le_trans hA.le.2 hg.size⟩⟩
  refine ((hall.mono (D' := fun k => (B ≤ k ∧ some k ≠ v5.ownBlock) ∧ some k ≠ v.ownBlock) (fun k hk hD => ⟨⟨hD.1, ?_⟩, hD.2⟩)).move hg.size (fun k hk hD => hg.block k hk hD.2)).mono (fun k _ hD => hD.1)
  rcases hv with hv | hv
  · rw [hv]; exact hD.2
  · rw [hv]; intro e; cases e; simp at hk
/-- WHAT All ANSWERS -/
def keyF (H : Hd) (r : Int) : Int × List Lb × List Pt := (IntKind.u32.wrap r, (mget H.ix.all r).getD [], (mget H.pts r).getD [])
def allF (H : Hd) : List (Int × List Lb × List Pt) := (refsF H).map (keyF H)
def AllPost (w : World) (H : Hd) (e : Ending) (w' : World) : Prop := ∃ v l, e = .returned v ∧ Slc 3 Sr.enc w' (fun k => w.heap.size ≤ k) v l ∧ SrOk w' (fun k => w.heap.size ≤ k) l ∧ l.map Sr.key = allF H ∧ Below w.heap.size w w'
theorem info_ser : (Tryz.prog.info? 66).map (fun i => (i.zero, i.size, i.bytes)) = some (some (.agg #[.int .u32 0, .slice none 0 0, .slice none 0 0]), 3, 56) := by kernel_rfl

set_option maxRecDepth 100000 in
set_option maxHeartbeats 4000000 in
theorem head_all {X : List Nat} {o : HLoc} {H : Hd} (w : World) (h : HeadAt w X o H) (hl : H.pts.length ≤ 1000000) :
    Calls Tryz.prog 22 #[.pointer (some ⟨o.hp, 0, none⟩)] w (AllPost w H) := by
  have c0 := blk_cell h.hc 0
  have i0 := blk_cell h.inn.ic 0
  have i1 := blk_cell h.inn.ic 1
  simp at c0 i0 i1
  have href := inner_refs w h.inn hl
  unfold RefsPost at href
  have HRef := Lib.hid href
  have HH := Lib.hid h
  have hrl : (refsF H).length ≤ 1000000 := by unfold refsF; rw [sorted_len]; simpa using hl
  obtain ⟨l, hl2⟩ : ∃ l, refsF H = l := ⟨_, rfl⟩
  have hall : allF H = l.map (keyF H) := by unfold allF; rw [hl2]
  have HAll := Lib.hid hall
  rw [hl2] at hrl HRef
  obtain ⟨n, hn⟩ : ∃ n, n = l.length := ⟨_, rfl⟩
  have Hn := Lib.hid hn
  rw [← hn] at hrl
  clear h href hl hl2 hall hn
  go_enter Tryz.func22, Tryz.ntmps22
  go_wp2_with fail
  refine (head_is _ _ _ c0).mono ?_
  rintro e w' ⟨rfl, rfl⟩
  go_wp2_with fail
  refine HRef.out.mono ?_
  rintro e w1 ⟨v, rfl, hv, hb⟩
  obtain ⟨A, c, rfl, p1, p2, p3, p4, p5⟩ := hv
  have HR := Lib.hid p5
  have HB1 := Lib.hid hb
  rw [← Hn.out]
  clear p1 p2 p3 p4 p5 hb
  go_wp2_with fail
  go_loopw [3, 17] (fun ov i wr => ∃ (k : Nat) (srs : List Sr), k ≤ n ∧ i = .int .i64 k ∧ srs.map Sr.key = (l.take k).map (keyF H) ∧ SrTo w1 w1.heap.size ov srs wr) (fun _ i _ => n - (intOf i).toNat)
  case atStart => exact ⟨0, [], Nat.zero_le _, rfl, rfl, ⟨⟨by simp, .inl ⟨rfl, by simp⟩⟩, fun x hx => by simp at hx, Below.refl _ _, ⟨Nat.le_refl _, Nat.le_refl _⟩⟩⟩
  case round =>
    obtain ⟨k, srs, hk, rfl, hE, hS⟩ := hrel
    have HE := Lib.hid hE
    have HS := Lib.hid hS
    have c1 := later (bthen HB1.out hS.below) c0
    have j0 := later (bthen HB1.out hS.below) i0
    have j1 := later (bthen HB1.out hS.below) i1
    obtain ⟨Ao, co, rfl⟩ := own_slice hS.own
    by_cases hlt : k < n
    · have hkl : k < l.length := by rw [← Hn.out]; exact hlt
      have hEk : (l.take (k + 1)).map (keyF H) = srs.map Sr.key ++ [keyF H l[k]] := by rw [List.take_succ_eq_append_getElem hkl, List.map_append, hE]; rfl
      have HEk := Lib.hid hEk
      have hsl : srs.length = k := by have := congrArg List.length hE; simp at this; omega
      obtain ⟨b, off, rfl, z0⟩ := rdU_at (Rd.below HR.out hS.below) hkl
      generalize l[k] = q at *
      have hlab := ix_labels q wr (HH.out.below (bthen HB1.out hS.below)).inn.ix
      unfold LabelsPost at hlab
      have HLab := Lib.hid hlab
      have Hsl := Lib.hid hsl
      clear hlab hE hS hEk hsl
      go_wp2_with fail
      refine HLab.out.mono ?_
      rintro e w2 ⟨lv, rfl, hlv, hb2⟩
      have HLv := Lib.hid hlv
      obtain ⟨A2, c2, rfl, -⟩ := hlv
      have HB2 := Lib.hid hb2
      have y0 := later hb2 c1
      have y1 := later hb2 j1
      clear hb2 HLab
      have HBd : Hid (Below wr.heap.size wr w2) := HB2
      obtain ⟨ep, cp, pv, hop, hpv, hev, hlp⟩ := pts_look (HH.out.below (bthen HB1.out (bthen HS.out.below HBd.out))).inn.pts q
      have hlp1 := hlp _ hop
      have howned := head_owned pv ((mget H.pts q).getD []) w2 hev.1 (by have := hev.2; omega)
      unfold OwnedPost at howned
      have HOw := Lib.hid howned
      obtain ⟨⟨A3, c3, rfl, -⟩, -⟩ := hev
      have hs6 : srs.length ≤ 1000000 := by have := Hsl.out; omega
      clear hlp howned hop hpv
      go_wp2_with fail
      refine HOw.out.mono ?_
      rintro e w4 ⟨v4, rfl, hS4, hb4⟩
      have HX : Hid (SlL w4 (fun k => wr.heap.size ≤ k) (.slice A2 ((mget H.ix.all q).getD []).length c2) ((mget H.ix.all q).getD []) ∧ SlP w4 (fun k => wr.heap.size ≤ k) v4 ((mget H.pts q).getD [])) := Lib.hid ⟨HLv.out.below hb4, Slc.mono hS4 (fun k _ hk => Nat.le_trans HB2.out.size hk)⟩
      obtain ⟨A4, c4, rfl, -⟩ := hS4
      have HB4 := Lib.hid (bthen HB2.out hb4)
      have HSw := Lib.hid (HS.out.then HB4.out)
      clear hb4
      obtain ⟨x, hx⟩ : ∃ x : Sr, x = ⟨IntKind.u32.wrap q, .slice A2 ((mget H.ix.all q).getD []).length c2, (mget H.ix.all q).getD [], .slice A4 ((mget H.pts q).getD []).length c4, (mget H.pts q).getD []⟩ := ⟨_, rfl⟩
      have hk5 : x.key = keyF H q := by rw [hx]; rfl
      have HX2 : Hid (SlL w4 (fun k => wr.heap.size ≤ k) x.lv x.lab ∧ SlP w4 (fun k => wr.heap.size ≤ k) x.pv x.pts) := Lib.hid (by rw [hx]; exact HX.out)
      have HSrc : Hid (SrcAt (w4.alloc (.cells #[.int .u32 (IntKind.u32.wrap q), .slice A2 ((mget H.ix.all q).getD []).length c2, .slice A4 ((mget H.pts q).getD []).length c4] 66)) (.slice (some ⟨w4.heap.size, 0, none⟩) 1 1) 1 3 x.enc) := Lib.hid (by rw [hx]; exact src_block (blk_new _ _) rfl (sr_one ⟨IntKind.u32.wrap q, .slice A2 ((mget H.ix.all q).getD []).length c2, (mget H.ix.all q).getD [], .slice A4 ((mget H.pts q).getD []).length c4, (mget H.pts q).getD []⟩ HX.out) 1)
      have HK5 := Lib.hid hk5
      clear hx hk5
      generalize ((mget H.ix.all q).getD []).length = n2 at *
      generalize ((mget H.pts q).getD []).length = n4 at *
      have HBa : Hid (Below w4.heap.size w4 (w4.alloc (.cells #[.int .u32 (IntKind.u32.wrap q), .slice A2 n2 c2, .slice A4 n4 c4] 66))) := Lib.hid (balloc (Below.refl _ _) _)
      have HSa := Lib.hid (HSw.out.then HBa.out)
      go_wp2_with (at_builtin; refine wpList_app (w0 := w4.alloc (.cells #[.int .u32 (IntKind.u32.wrap q), .slice A2 n2 c2, .slice A4 n4 c4] 66)) w1.heap.size rfl _ _ 22 66 _ 3 56 1 x.enc rfl Tryz.underlying22 info_ser rfl (by decide) (by decide) (.slice Ao srs.length co) srs.length (srs.flatMap Sr.enc) ?hs ?hx HSa.out.own (Below.refl _ _) HSa.out.le.2 (by omega) ?_)
      case hs => rfl
      case hx => exact HSrc.out
      intro v5 w5 hO5 hB5 hg5 hat5
      obtain ⟨A5, c5, rfl⟩ := own_slice hO5
      have hat5' := (show _ ∨ _ from hat5)
      have HT : Hid (SrTo w1 w1.heap.size (.slice A5 (srs.length + 1) c5) (srs ++ [x]) w5) := Lib.hid (HS.out.add HB4.out HX2.out hO5 (((bthen HB4.out HBa.out).mono HS.out.le.2).trans hB5) hg5 (by simpa using hat5'))
      clear hO5 hB5 hg5 hat5 hat5'
      go_wp2_with fail
      go_roundw
      case rel => exact ⟨k + 1, srs ++ [x], by omega, by go_num, by rw [HEk.out, List.map_append, ← HK5.out]; rfl, HT.out⟩
      case measure => simp [intOf] <;> omega
    · have hkn : k = n := by omega
      subst hkn
      have HF : Hid (srs.map Sr.key = allF H) := Lib.hid (by rw [HAll.out, hE, Hn.out, List.take_length])
      have HB2 := Lib.hid hS.below
      clear hE hS
      go_wp2_with fail
      go_ret
      refine ⟨_, srs, rfl, ?_, ?_, HF.out, bthen HB1.out HB2.out⟩
      · exact Slc.mono (own_slc sr_len rfl HS.out.own) (fun k _ hk => Nat.le_trans HB1.out.size hk)
      · exact SrOk.mono HS.out.ok (fun k _ hk => Nat.le_trans HB1.out.size hk.1)
end Go.Proofs.YtbjglcdoekbloaaGreatDoor

/- the reference's Same, of points and of series. -/
namespace Go.Proofs.YtbjglcdoekbloaaGreatDoor
open Go.RowKit

set_option maxHeartbeats 400000 in
theorem ref09_same (A B : Option Addr) (cA cB : Nat) (la lb : List Pt) (w : World) (hA : RdP w A la) (hB : RdP w B lb) (ha : la.length ≤ maxLen) (hb : lb.length ≤ maxLen) :
    Calls Tryz.prog 46 #[.slice A la.length cA, .slice B lb.length cB] w fun e w' => e = .returned (.bool (decide (la = lb))) ∧ Below w.heap.size w w' := by
  have ha : la.length ≤ 9223372036854775807 := ha
  have hb : lb.length ≤ 9223372036854775807 := hb
  by_cases hlen : la.length = lb.length
  · obtain ⟨n, hn⟩ : ∃ n, n = la.length := ⟨_, rfl⟩
    have hn2 : n = lb.length := hn.trans hlen
    rw [← hn, ← hn2]
    have Hn := Lib.hid hn
    have Hn2 := Lib.hid hn2
    have hnb : n ≤ 9223372036854775807 := by omega
    clear hn hn2 ha hb hlen
    go_enter Tryz.func46, Tryz.ntmps46
    go_wp2
    go_loopw [13] (fun i wr => ∃ k : Nat, k ≤ n ∧ i = .int .i64 k ∧ la.take k = lb.take k ∧ ∃ m, wr = w.drewN m) (fun i _ => n - (intOf i).toNat)
    case atStart => exact ⟨0, Nat.zero_le _, rfl, rfl, 0, rfl⟩
    case round =>
      obtain ⟨k, hk, rfl, ht, m, rfl⟩ := hrel
      have Ht := Lib.hid ht
      clear ht
      by_cases hlt : k < n
      · obtain ⟨b, off, rfl, c0, c1, c2⟩ := hA.at_ (k := k) (by rw [← Hn.out]; exact hlt)
        obtain ⟨b', off', rfl, c0', c1', c2'⟩ := hB.at_ (k := k) (by rw [← Hn2.out]; exact hlt)
        have hq := fun w => run_neq_pt w la[k] lb[k]
        have hg := fun w op x y xs ys => run_guard_pt w op x y xs ys
        by_cases heq : la[k] = lb[k]
        · have hd : decide (la[k] = lb[k]) = true := by simp [heq]
          simp only [hd, Bool.not_true] at hq
          have Heq := Lib.hid heq
          clear heq hd
          go_wp2
          go_quiet (fail)
          go_wp2
          go_roundw
          case rel => exact ⟨k + 1, by omega, by go_num, by rw [List.take_succ_eq_append_getElem (by rw [← Hn.out]; exact hlt), List.take_succ_eq_append_getElem (by rw [← Hn2.out]; exact hlt), Ht.out, Heq.out], _, rfl⟩
          case measure => simp [intOf]; omega
        · have hd : decide (la[k] = lb[k]) = false := by simp [heq]
          simp only [hd, Bool.not_false] at hq
          clear hd
          go_wp2
          go_quiet (fail)
          go_wp2
          go_ret
          refine ⟨ret_bool ?_, bdr (bdr (Below.refl _ _) _) _⟩
          have : ¬ la = lb := fun e => by subst e; exact heq rfl
          simp [this]
      · go_wp2
        go_ret
        refine ⟨ret_bool ?_, bdr (Below.refl _ _) _⟩
        have : la = lb := by
          have := Ht.out
          rwa [List.take_of_length_le (by rw [← Hn.out]; omega), List.take_of_length_le (by rw [← Hn2.out]; omega)] at this
        simp [this]
  · have hl0 : ((la.length : Int) == (lb.length : Int)) = false := by simp; omega
    have hl1 : ((la.length : Int) != (lb.length : Int)) = true := by simp; omega
    have hne : ¬ la = lb := fun e => hlen (by rw [e])
    go_enter Tryz.func46, Tryz.ntmps46
    go_wp2
    go_ret
    refine ⟨by simp [hne], Below.refl _ _⟩

theorem rdSr_at {w : World} {A : Option Addr} {l : List Sr} (h : Rd 3 Sr.enc w A l) {k : Nat} (hk : k < l.length) :
    ∃ b off, A = some ⟨b, off, none⟩ ∧ w.cell? ⟨b, off + k * 3, none⟩ = some (.int .u32 l[k].ref) ∧ w.cell? ⟨b, off + k * 3 + 1, none⟩ = some l[k].lv ∧ w.cell? ⟨b, off + k * 3 + 2, none⟩ = some l[k].pv := by
  obtain ⟨b, off, e, h⟩ := h k l[k] (List.getElem?_eq_getElem hk)
  exact ⟨b, off, e, h 0 _ rfl, h 1 _ rfl, h 2 _ rfl⟩
/-- two slices of the same labels -/
theorem same_lab {D D' : Nat → Prop} {v v' : Value} {l : List Lb} (w : World) (h : SlL w D v l) (h' : SlL w D' v' l) : ∀ W, Below w.heap.size w W → Calls Tryz.prog 24 #[v, v'] W fun e w' => e = .returned (.bool true) ∧ Below W.heap.size W w' := by
  obtain ⟨A, c, rfl, p1, p2, -, -, p5⟩ := h
  obtain ⟨A', c', rfl, q1, q2, -, -, q5⟩ := h'
  intro W hW
  refine (ref05_same A A' c c' l l W (Rd.below p5 hW) (Rd.below q5 hW) (by omega) (by omega)).mono ?_
  rintro e w' ⟨rfl, hb⟩
  exact ⟨by simp, hb⟩
theorem same_pts {D D' : Nat → Prop} {v v' : Value} {l : List Pt} (w : World) (h : SlP w D v l) (h' : SlP w D' v' l) : ∀ W, Below w.heap.size w W → Calls Tryz.prog 46 #[v, v'] W fun e w' => e = .returned (.bool true) ∧ Below W.heap.size W w' := by
  obtain ⟨A, c, rfl, p1, p2, -, -, p5⟩ := h
  obtain ⟨A', c', rfl, q1, q2, -, -, q5⟩ := h'
  intro W hW
  refine (ref09_same A A' c c' l l W (Rd.below p5 hW) (Rd.below q5 hW) (by omega) (by omega)).mono ?_
  rintro e w' ⟨rfl, hb⟩
  exact ⟨by simp, hb⟩
set_option maxRecDepth 100000 in
set_option maxHeartbeats 2000000 in
theorem ref14_same {D D' : Nat → Prop} (v v' : Value) (l l' : List Sr) (w : World) (h : Slc 3 Sr.enc w D v l) (h' : Slc 3 Sr.enc w D' v' l') (hl : SrOk w D l) (hl' : SrOk w D' l') (heq : l.map Sr.key = l'.map Sr.key) :
    Calls Tryz.prog 26 #[v, v'] w fun e w' => e = .returned (.bool true) ∧ Below w.heap.size w w' := by
  have hlen : l.length = l'.length := by have := congrArg List.length heq; simpa using this
  have HL := Lib.hid hl
  have HL' := Lib.hid hl'
  have HEq := Lib.hid heq
  obtain ⟨A, c, rfl, p1, p2, p3, p4, p5⟩ := h
  obtain ⟨A', c', rfl, q1, q2, q3, q4, q5⟩ := h'
  have HR := Lib.hid p5
  have HR' := Lib.hid q5
  obtain ⟨n, hn⟩ : ∃ n, n = l.length := ⟨_, rfl⟩
  have hn2 : n = l'.length := hn.trans hlen
  rw [← hn, ← hn2]
  have hnb : n ≤ 9223372036854775807 := by have : c ≤ maxLen := p2; simp only [maxLen] at this; omega
  have Hn := Lib.hid hn
  have Hn2 := Lib.hid hn2
  clear hl hl' heq p1 p2 p3 p4 p5 q1 q2 q3 q4 q5 hn hn2 hlen
  go_enter Tryz.func26, Tryz.ntmps26
  go_wp2
  go_loopw [13] (fun i wr => ∃ k : Nat, k ≤ n ∧ i = .int .i64 k ∧ Below w.heap.size w wr) (fun i _ => n - (intOf i).toNat)
  case atStart => exact ⟨0, Nat.zero_le _, rfl, Below.refl _ _⟩
  case round =>
    obtain ⟨k, hk, rfl, hB⟩ := hrel
    have HB := Lib.hid hB
    by_cases hlt : k < n
    · have hkl : k < l.length := by rw [← Hn.out]; exact hlt
      have hkl' : k < l'.length := by rw [← Hn2.out]; exact hlt
      obtain ⟨b, off, rfl, z0, z1, z2⟩ := rdSr_at (Rd.below HR.out hB) hkl
      obtain ⟨b', off', rfl, y0, y1, y2⟩ := rdSr_at (Rd.below HR'.out hB) hkl'
      have hk5 : l[k].key = l'[k].key := by
        have := congrArg (fun l => l[k]?) HEq.out
        simp [List.getElem?_eq_getElem hkl, List.getElem?_eq_getElem hkl'] at this
        exact this
      have hx := HL.out _ (List.getElem_mem hkl)
      have hx' := HL'.out _ (List.getElem_mem hkl')
      generalize l[k] = x at *
      generalize l'[k] = x' at *
      obtain ⟨r, lv, lab, pv, pts⟩ := x
      obtain ⟨r', lv', lab', pv', pts'⟩ := x'
      simp only [Sr.key, Prod.mk.injEq] at hk5
      obtain ⟨rfl, rfl, rfl⟩ := hk5
      simp only at z0 z1 z2 y0 y1 y2 hx hx'
      have h5 := same_lab wr (hx.1.below hB) (hx'.1.below hB)
      have h9 := same_pts wr (hx.2.below hB) (hx'.2.below hB)
      have H5 := Lib.hid h5
      have H9 := Lib.hid h9
      have e0 : wr.drew.cell? ⟨b, off + k * 3, none⟩ = some (.int .u32 r) := z0
      have e1 : wr.drew.cell? ⟨b, off + k * 3 + 1, none⟩ = some lv := z1
      have e2 : wr.drew.cell? ⟨b, off + k * 3 + 2, none⟩ = some pv := z2
      have f0 : wr.drew.cell? ⟨b', off' + k * 3, none⟩ = some (.int .u32 r) := y0
      have f1 : wr.drew.cell? ⟨b', off' + k * 3 + 1, none⟩ = some lv' := y1
      have f2 : wr.drew.cell? ⟨b', off' + k * 3 + 2, none⟩ = some pv' := y2
      have eB : Below wr.heap.size wr wr.drew := bdrew (Below.refl _ _)
      clear h5 h9 hx hx' z0 z1 z2 y0 y1 y2 hB
      go_wp2
      go_region_held3 (fun w' => (w'.cell? ⟨b, off + k * 3, none⟩ = some (.int .u32 r) ∧ w'.cell? ⟨b, off + k * 3 + 1, none⟩ = some lv ∧ w'.cell? ⟨b, off + k * 3 + 2, none⟩ = some pv) ∧ (w'.cell? ⟨b', off' + k * 3, none⟩ = some (.int .u32 r) ∧ w'.cell? ⟨b', off' + k * 3 + 1, none⟩ = some lv' ∧ w'.cell? ⟨b', off' + k * 3 + 2, none⟩ = some pv') ∧ Below wr.heap.size wr w')
        (first | exact ⟨⟨e0, e1, e2⟩, ⟨f0, f1, f2⟩, eB⟩ | exact ⟨⟨later hb' e0, later hb' e1, later hb' e2⟩, ⟨later hb' f0, later hb' f1, later hb' f2⟩, bthen eB hb'⟩ | exact ⟨⟨later (bthen hb' hb9) e0, later (bthen hb' hb9) e1, later (bthen hb' hb9) e2⟩, ⟨later (bthen hb' hb9) f0, later (bthen hb' hb9) f1, later (bthen hb' hb9) f2⟩, bthen eB (bthen hb' hb9)⟩)
        (first | (go_at_call 24; refine (H5.out _ eB).mono ?_; rintro e w' ⟨rfl, hb'⟩) | (go_at_call 46; refine (H9.out _ (bthen eB hb')).mono ?_; rintro e w' ⟨rfl, hb9⟩))
      go_wp2
      go_roundw
      case rel => exact ⟨k + 1, by omega, by go_num, bthen HB.out (bthen eB (bthen hb' hb9))⟩
      case measure => simp [intOf] <;> omega
    · clear hB
      go_wp2
      go_ret
      exact ⟨rfl, HB.out⟩
end Go.Proofs.YtbjglcdoekbloaaGreatDoor

/- what stays when a head turns. -/
namespace Go.Proofs.YtbjglcdoekbloaaGreatDoor
open Go.RowKit Go.Proofs.YtbjglcdoekbloaaGreatDoor.MapRaw Go.ChangeMaps

theorem Rd.srcL {α : Type} {sz : Nat} {enc : α → List Value} (he : ∀ x, (enc x).length = sz) (h0 : 0 < sz) {w : World} {A : Option Addr} {l : List α} {c : Nat} (h1 : ∀ x ∈ l, ∀ u ∈ enc x, u.oneCell' = true) (h : Rd sz enc w A l) (hA : A = none → c = 0) (hsp : ∀ ad, A = some ad → l ≠ [] → ad.spot = none) :
    SrcAt w (.slice A l.length c) l.length sz (l.flatMap enc) := by
  refine ⟨flat_len' he l, fun u hu => ?_, ?_⟩
  · obtain ⟨x, hm, hx⟩ := List.mem_flatMap.1 hu; exact h1 x hm u hx
  · cases A with
    | none =>
      left
      have : l = [] := by
        cases l with
        | nil => rfl
        | cons x l => obtain ⟨b, off, e, _⟩ := h 0 x rfl; cases e
      subst this; rw [hA rfl]; exact ⟨rfl, rfl⟩
    | some ad =>
      right
      refine ⟨ad, c, rfl, fun j u hj => ?_⟩
      have hjl : j < l.length * sz := by rw [← flat_len' he l]; exact (List.getElem?_eq_some_iff.1 hj).1
      have hi : j / sz < l.length := by rw [Nat.div_lt_iff_lt_mul h0]; exact hjl
      obtain ⟨b, off, e, hc⟩ := h (j / sz) l[j / sz] (List.getElem?_eq_getElem hi)
      have ead : ad = ⟨b, off, none⟩ := Option.some.inj e
      subst ead
      have hd : j / sz * sz + j % sz = j := by rw [Nat.mul_comm]; exact Nat.div_add_mod j sz
      have hg := flat_get he l (j / sz) (j % sz) hi (Nat.mod_lt _ h0)
      rw [hd, hj] at hg
      have := hc (j % sz) u hg.symm
      rw [add_plain]
      rw [← this]; congr 2; omega
theorem slice_one {w : World} {α : Type} {sz : Nat} {enc : α → List Value} {D : Nat → Prop} {v : Value} {l : List α} (h : Slc sz enc w D v l) : v.oneCell' = true := by
  obtain ⟨_, _, rfl, _⟩ := h; rfl
theorem recs_src {w : World} {D : Nat → Prop} {v : Value} {l : List RecV} (h : Slc 4 RecV.enc w D v l) (hl : RecOk w D l) : SrcAt w v l.length 4 (l.flatMap RecV.enc) := by
  obtain ⟨A, c, rfl, _, _, h3, h4, h5⟩ := h
  exact Rd.srcL recV_len (by decide) (fun x hx => recV_one x (slice_one (hl x hx).1) (slice_one (hl x hx).2)) h5 h3 fun ad ha hn => (h4 ad ha hn).1
theorem HeadAt.step {w w' : World} {X X' : List Nat} {o : HLoc} {H : Hd} {P : Nat → Prop} (h : HeadAt w X o H) (hA : Apart P w w') (hP : ∀ k, P k → k ∈ X) (hb : ∀ k ∈ blksH o, ¬ P k) (hX : ∀ k ∈ X, k ∈ X') (hX2 : ∀ k, k < w.heap.size → k ∉ X → k ∉ X') (hX3 : ∀ k ∈ X', k < w'.heap.size) : HeadAt w' X' o H := by
  have hlt := h.inn.ix.lt
  have hout : ∀ k, k < w.heap.size → k ∉ X → w'.heap[k]? = w.heap[k]? := fun k hk hX => hA.block k hk (fun hp => hX (hP k hp))
  have hin : ∀ k ∈ blksH o, w'.heap[k]? = w.heap[k]? := fun k hk => hA.block k (hlt k (h.inn.bsub k hk)) (hb k hk)
  have hhp : o.hp < w.heap.size := (Array.getElem?_eq_some_iff.1 h.hc).1
  have hxb : o.xb < w.heap.size := (Array.getElem?_eq_some_iff.1 h.inn.ix.cells).1
  refine ⟨(hout _ hhp h.inn.mem.2.2.2).trans h.hc, ⟨(hin _ (ib_mem o)).trans h.inn.ic, ?_, ?_, ⟨hX _ h.inn.mem.1, hX _ h.inn.mem.2.1, hX2 _ hxb h.inn.mem.2.2.1, hX2 _ hhp h.inn.mem.2.2.2⟩, h.inn.ne⟩⟩
  · refine h.inn.ix.move hA.size (fun k hk hk2 => ?_) hX2 hX hX3
    rcases hk2 with hk2 | rfl | hk2
    · exact hout k hk hk2
    · exact hout _ hxb h.inn.mem.2.2.1
    · exact hin k (by unfold blksH; exact List.mem_append_right _ hk2)
  · exact h.inn.pts.move (hin _ (pb_mem o)) (fun p _ v hv => evP.move hv hA.size hout hX2)
theorem RecOk.turn {w w' : World} {X X' : List Nat} {l : List RecV} (h : RecOk w (fun k => k ∉ X) l) (hA : Apart (fun k => k ∈ X) w w') (hX : MoreX w X X') : RecOk w' (fun k => k ∉ X') l :=
  ((RecOk.mono (D' := fun k => k ∉ X ∧ k ∉ X') h (fun k hk hkX => ⟨hkX, hX.out hk hkX⟩)).move hA.size (fun k hk hD => hA.block k hk hD.1)).mono (fun k _ hD => hD.2)
theorem SrOk.turn {w w' : World} {X X' : List Nat} {l : List Sr} (h : SrOk w (fun k => k ∉ X) l) (hA : Apart (fun k => k ∈ X) w w') (hX : MoreX w X X') : SrOk w' (fun k => k ∉ X') l :=
  ((SrOk.mono (D' := fun k => k ∉ X ∧ k ∉ X') h (fun k hk hkX => ⟨hkX, hX.out hk hkX⟩)).move hA.size (fun k hk hD => hA.block k hk hD.1)).mono (fun k _ hD => hD.2)
theorem RecOk.belo {w w' : World} {D : Nat → Prop} {l : List RecV} (h : RecOk w D l) (hb : Below w.heap.size w w') : RecOk w' D l := h.move hb.size (fun k hk _ => hb.block k hk)
end Go.Proofs.YtbjglcdoekbloaaGreatDoor
