import Derived.Test.YtbjglcdoekbloaaGreatDoorGPlA
import Derived.Deep.DeepCutAuto
import Derived.Deep.CutBlock
set_option linter.unusedSimpArgs false
set_option linter.unusedVariables false
set_option linter.unusedSectionVars false
/- head.inner.look. -/
namespace Go.Proofs.YtbjglcdoekbloaaGreatDoor
open Go.RowKit Go.Proofs.YtbjglcdoekbloaaGreatDoor.MapRaw Go.ChangeMaps

def LookPost (w : World) (s : Lk) (e : Ending) (w' : World) : Prop :=
  ∃ qb B mb ofv bornv bl, e = .returned (.pointer (some ⟨qb, 0, none⟩)) ∧ w'.heap[qb]? = some (.cells #[ofv, bornv, .map (some mb), .int .u64 s.top] 92 (0, 0)) ∧ LkRest w' B mb s.of s.of ofv bornv bl ∧ bl.map RecV.r = s.born ∧ (w.heap.size ≤ qb ∧ w.heap.size ≤ mb ∧ qb < B ∧ qb ≠ mb) ∧ Below w.heap.size w w'
/-- where the loop of look stands -/
structure LookTo (w : World) (B mb qb : Nat) (s : Lk) (w' : World) : Prop where
  ex : ∃ ofv bornv bl, w'.heap[qb]? = some (.cells #[ofv, bornv, .map (some mb), .int .u64 s.top] 92 (0, 0)) ∧ LkRest w' B mb s.of s.of ofv bornv bl ∧ bl.map RecV.r = s.born
  below : Below w.heap.size w w'

/-- where a round stands when the number is known: the plan's row of numbers has not grown yet -/
structure LookMid (I : Ix) (w : World) (B mb qb : Nat) (s : Lk) (lab : List Lb) (q : Int) (w' : World) : Prop where
  ex : ∃ born' top' ofv bornv bl, w'.heap[qb]? = some (.cells #[ofv, bornv, .map (some mb), .int .u64 top'] 92 (0, 0)) ∧ LkRest w' B mb s.of s.of ofv bornv bl ∧ bl.map RecV.r = born' ∧ lookStep I s lab = ⟨s.prev ++ [(lab, q)], born', top'⟩
  below : Below w.heap.size w w'

theorem info_rec : (Tryz.prog.info? 45).map (fun i => (i.zero, i.size, i.bytes)) = some (some (.agg #[.int .i64 0, .int .u32 0, .slice none 0 0, .slice none 0 0]), 4, 64) := by kernel_rfl
theorem recV_one (x : RecV) (h1 : x.lv.oneCell' = true) (h2 : x.pv.oneCell' = true) : ∀ u ∈ x.enc, u.oneCell' = true := by
  intro u hu
  simp [RecV.enc] at hu
  rcases hu with rfl | rfl | rfl | rfl
  · rfl
  · rfl
  · exact h1
  · exact h2
theorem born_blk {w5 : World} {qb : Nat} {ofv bornv v5 m t : Value} {fr : Nat × Nat} {T : TypeId} (h : w5.heap[qb]? = some (.cells #[ofv, bornv, m, t] T fr)) : (w5.setCell ⟨qb, 1, none⟩ v5).heap[qb]? = some (.cells #[ofv, v5, m, t] T fr) := setCell_blk (i := 1) v5 h
theorem born_rest {W1 w4 w5 : World} {B mb qb : Nat} {ml ofl : List Int} {ofv bornv v4 v5 : Value} {bl : List RecV} {r : Rec} {o : Obj} (h : LkRest W1 B mb ml ofl ofv bornv bl) (h4 : Below W1.heap.size W1 w4) (hs : SlL w4 (fun k => W1.heap.size ≤ k) v4 r.lab)
    (ho : w5.ownsRow B 45 4 v5 (bl.length + 1) (bl.flatMap RecV.enc ++ RecV.enc ⟨⟨r.kind, r.ref, r.lab, []⟩, v4, .slice none 0 0⟩)) (hg : (w4.alloc o).grownBy w5 bornv.ownBlock) (hv : v5.ownBlock = bornv.ownBlock ∨ v5.ownBlock = some (w4.heap.size + 1)) (hq : qb < B) (hqm : qb ≠ mb) :
    LkRest (w5.setCell ⟨qb, 1, none⟩ v5) B mb ml ofl ofv v5 (bl ++ [⟨⟨r.kind, r.ref, r.lab, []⟩, v4, .slice none 0 0⟩]) := by
  have hb : Below w4.heap.size w4 (w4.alloc o) := balloc (Below.refl _ _) o
  have hlt := h.lt
  have hR := (h.below hq hqm h4).below hq hqm hb
  have hA := hR.addBorn (x := ⟨⟨r.kind, r.ref, r.lab, []⟩, v4, .slice none 0 0⟩) ho hg (by simpa using hv) (fun x hx => by
    simp at hx; subst hx
    refine ⟨(Slc.mono hs (fun k hk hk2 => ⟨by omega, fun e => ?_, fun e => ?_⟩)).below hb, Slc.nil _ _ _ _⟩
    · have := ownsRow_blk h.of k e.symm; omega
    · have := ownsRow_blk h.born k e.symm; omega)
  exact hA.frame hq hqm (by simp [World.setCell]) (fun k _ hne => Below.heap_setCell _ _ _ _ hne)
set_option maxRecDepth 100000 in
set_option maxHeartbeats 4000000 in
theorem inner_look {D : Nat → Prop} {X : List Nat} {o : HLoc} {H : Hd} (v : Value) (l : List Po) (w : World) (h : InAt w X o H) (hv : Slc 4 Po.enc w D v l) (hl : PoOk w D l) (hT : Tabs w) (h2 : 2 ≤ w.heap.size) (hn : l.length ≤ 16) (hlb : ∀ x ∈ l, x.lab.length ≤ 16) (ht : 0 ≤ H.top ∧ H.top ≤ 4294967295) :
    Calls Tryz.prog 36 #[.pointer (some ⟨o.ib, 0, none⟩), v] w (LookPost w (lookAll H.ix H.top (l.map Po.lab))) := by
  have i0 := blk_cell h.ic 0
  have i2 := blk_cell h.ic 2
  simp at i0 i2
  obtain ⟨A, c, rfl, p1, p2, p3, p4, p5⟩ := hv
  have HR := Lib.hid p5
  have HL := Lib.hid hl
  have HI := Lib.hid h
  have HT := Lib.hid hT
  have HTop := Lib.hid ht
  have HLb := Lib.hid hlb
  obtain ⟨n, hn'⟩ : ∃ n, n = l.length := ⟨_, rfl⟩
  have Hn := Lib.hid hn'
  rw [← hn'] at hn ⊢
  clear h hl hT ht hlb p1 p2 p3 p4 p5 hn'
  have hmm := @run_makeMap Tryz.prog
  have j2 : (w.alloc (.map #[] 0)).cell? ⟨o.ib, 2, none⟩ = some (.int .u64 H.top) := later (balloc (Below.refl _ _) _) i2
  go_enter Tryz.func36, Tryz.ntmps36
  go_wp2
  have h0 : LookTo w (w.heap.size + 2) w.heap.size (w.heap.size + 1) (lookAll H.ix H.top ((l.take 0).map Po.lab)) ((w.alloc (.map #[] 0)).alloc (.cells #[.slice none 0 0, .slice none 0 0, .map (some w.heap.size), .int .u64 H.top] 92)) := by
    have a1 := blk_new (w.alloc (.map #[] 0)) (.cells #[.slice none 0 0, .slice none 0 0, .map (some w.heap.size), .int .u64 H.top] 92 (0, 0))
    have s0 : (w.alloc (.map #[] 0)).heap.size = w.heap.size + 1 := by simp
    rw [s0] at a1
    refine ⟨⟨_, _, [], a1, ⟨⟨_, _, blk_below (blk_new w (.map #[] 0)) (balloc (Below.refl _ _) _), IsMap.empty⟩, ⟨rfl, .inl ⟨rfl, rfl⟩⟩, ⟨rfl, .inl ⟨rfl, rfl⟩⟩, fun x hx => (by simp at hx), (by intro k hk; cases hk), by simp⟩, rfl⟩, balloc (balloc (Below.refl _ _) _) _⟩
  have H0 := Lib.hid h0
  clear h0 j2
  generalize (w.alloc (.map #[] 0)).alloc (.cells #[.slice none 0 0, .slice none 0 0, .map (some w.heap.size), .int .u64 H.top] 92) = w0 at *
  go_loopw [20] (fun i wr => ∃ k : Nat, k ≤ n ∧ i = .int .i64 k ∧ LookTo w (w.heap.size + 2) w.heap.size (w.heap.size + 1) (lookAll H.ix H.top ((l.take k).map Po.lab)) wr) (fun i _ => n - (intOf i).toNat)
  case atStart => exact ⟨0, Nat.zero_le _, rfl, H0.out⟩
  case round =>
    obtain ⟨k, hk, rfl, hE⟩ := hrel
    by_cases hlt : k < n
    · have hkl : k < l.length := by rw [← Hn.out]; exact hlt
      obtain ⟨⟨ofv, bornv, bl, hq, hrest, hbl⟩, hB⟩ := hE
      obtain ⟨b, off, rfl, z0, z1, z2, z3⟩ := rdO_at (Rd.below HR.out hB) hkl
      have hx := HL.out _ (List.getElem_mem hkl)
      have hlen16 := HLb.out _ (List.getElem_mem hkl)
      have HAdd := Lib.hid (lookAll_add H.ix H.top l k hkl)
      have hpv := look_prev H.ix H.top ((l.take k).map Po.lab)
      have hkk : ((l.take k).map Po.lab).length = k := by simp; omega
      rw [hkk] at hpv
      generalize lookAll H.ix H.top ((l.take k).map Po.lab) = s at *
      generalize l[k] = x at *
      obtain ⟨xat, xv, lab, xT, xV⟩ := x
      simp only at z0 z1 z2 z3 hx HAdd hlen16
      obtain ⟨⟨A2, c2, rfl, y1, y2, y3, y4, y5⟩, hsz⟩ := hx
      have hix := fun (W : World) (hW : Below w.heap.size w W) => ix_ref (.slice A2 lab.length c2) lab W (HI.out.ix.below hW) (Slc.below (D := D) ⟨A2, c2, rfl, y1, y2, y3, y4, y5⟩ hW) hsz (HT.out.below hW h2) (Nat.le_trans h2 hW.size)
      have hsm : ∀ (W : World) (v1 : Value) (l1 : List Lb), Below w.heap.size w W → SlL W D v1 l1 → l1.length ≤ maxLen → Calls Tryz.prog 76 #[v1, .slice A2 lab.length c2] W fun e w' => e = .returned (.bool (decide (l1 = lab))) ∧ Below W.heap.size W w' := by
        intro W v1 l1 hW h1 hl1
        obtain ⟨E1, d1, rfl, _, _, _, _, a5⟩ := h1
        exact labels_same E1 A2 d1 c2 l1 lab W a5 (RdL.below y5 hW) hl1 (Nat.le_trans y1 y2)
      unfold RefPost at hix
      have HIX := Lib.hid hix
      have HSM := Lib.hid hsm
      have hcl := fun (W : World) (hW : Below w.heap.size w W) => labels_clone (.slice A2 lab.length c2) lab W (Slc.below (D := D) ⟨A2, c2, rfl, y1, y2, y3, y4, y5⟩ hW) (by omega)
      unfold ClonePost at hcl
      have HCl := Lib.hid hcl
      have HPV := Lib.hid hpv
      have HRest := Lib.hid hrest
      have HBl := Lib.hid hbl
      have HBr := Lib.hid hB
      clear hix hsm hcl hlen16 hpv hrest hbl y1 y2 y3 y4 y5 hkk
      have e0 := later hB i0
      clear hB
      generalize lab.length = nlab at *
      go_wp2
      have HBw : Below wr.heap.size wr (wr.alloc (.cells #[.int .i64 xat, .slice A2 nlab c2, .int .i64 xT, .int .u64 xV] 77)) := balloc (Below.refl _ _) _
      have v1 : (wr.alloc (.cells #[.int .i64 xat, .slice A2 nlab c2, .int .i64 xT, .int .u64 xV] 77)).cell? ⟨wr.heap.size, 1, none⟩ = some (.slice A2 nlab c2) := by simp
      generalize wr.alloc (.cells #[.int .i64 xat, .slice A2 nlab c2, .int .i64 xT, .int .u64 xV] 77) = W at *
      have y0 : W.drew.cell? ⟨o.ib, 0, none⟩ = some (.pointer (some ⟨o.xb, 0, none⟩)) := later HBw e0
      have y1 : W.drew.cell? ⟨wr.heap.size, 1, none⟩ = some (.slice A2 nlab c2) := v1
      have HBw1 := Lib.hid (bdrew HBw)
      clear HBw v1 e0
      go_region_held3 (fun w' => w'.cell? ⟨o.ib, 0, none⟩ = some (.pointer (some ⟨o.xb, 0, none⟩)) ∧ w'.cell? ⟨wr.heap.size, 1, none⟩ = some (.slice A2 nlab c2)) (first | exact ⟨y0, y1⟩ | exact ⟨later hb' y0, later hb' y1⟩)
        (first | (go_at_call 58; refine (HIX.out _ (bthen HBr.out HBw1.out)).mono ?_; rintro e w' ⟨rfl, hb'⟩))
      have hIn := InTo.start H.ix s.prev lab
      generalize (refF H.ix lab).getD 0 = q0 at *
      generalize (refF H.ix lab).isSome = b0 at *
      have HIn := Lib.hid hIn
      clear hIn
      have hqw := blk_below (w1 := w') (blk_below (w1 := W.drew) hq HBw1.out) hb'
      have hlabv := later hb' y1
      have HRw := Lib.hid ((HRest.out.below (qb := w.heap.size + 1) (by omega) (by omega) HBw1.out).below (qb := w.heap.size + 1) (by omega) (by omega) hb')
      have HBw' := Lib.hid (bthen (bthen HBr.out HBw1.out) hb')
      clear hq y0 y1 hb'
      have Hvb : Hid (w.heap.size + 2 ≤ wr.heap.size) := Lib.hid HRest.out.lt.2
      generalize hvb : wr.heap.size = vb at *
      clear hvb
      generalize w' = w2 at *
      go_upto_block 2 with fail
      go_cut [8, 9] (fun v8 v9 wx => ∃ (b : Bool) (q : Int), v8 = .int .u64 q ∧ v9 = .bool b ∧ ((b = true ∧ lookRef H.ix s.prev lab = some q) ∨ (b = false ∧ lookRef H.ix s.prev lab = none)) ∧ Below w2.heap.size w2 wx)
      case first =>
        go_wp2_with fail
        go_loopw [8, 9, 10] (fun v8 v9 v10 wr => ∃ (j : Nat) (bq : Bool) (q : Int), j ≤ k ∧ v10 = .int .i64 j ∧ v9 = .bool bq ∧ v8 = .int .u64 q ∧ InTo H.ix s.prev lab j bq q ∧ Below w2.heap.size w2 wr) (fun _ _ v10 _ => k - (intOf v10).toNat)
        case atStart => exact ⟨0, b0, q0, Nat.zero_le _, rfl, rfl, rfl, HIn.out, Below.refl _ _⟩
        case round =>
          obtain ⟨j, bq, q, hj, rfl, rfl, rfl, hI2, hB2⟩ := hrel
          cases bq with
          | true =>
            have hfd := Lib.hid hI2.found
            have HB2 := Lib.hid hB2
            clear hI2 hB2
            have hcase : j < k ∨ ¬ j < k := Nat.lt_or_ge j k |>.imp id (by omega)
            rcases hcase with hjk | hjk
            all_goals
              go_wp2_with fail
              go_meet
              exact ⟨true, q, rfl, rfl, .inl ⟨rfl, hfd.out⟩, HB2.out⟩
          | false =>
            by_cases hjk : j < k
            · obtain ⟨hjl, hjp, hpj⟩ := prev_at HPV.out.1 hjk (by omega)
              obtain ⟨b', off', eA, x0, x1, x2, x3⟩ := rdO_at (Rd.below HR.out (bthen HBw'.out hB2)) hjl
              cases eA
              have hxj := HL.out _ (List.getElem_mem hjl)
              have hBd := bthen HBw'.out (bdrew hB2)
              have hcall := (HSM.out wr.drew l[j].v l[j].lab hBd (hxj.1.below hBd) (by obtain ⟨_, _, _, a1, a2, _⟩ := hxj.1; exact Nat.le_trans a1 a2))
              have hjn : (j : Int) < (n : Int) := by omega
              have y0 : wr.drew.cell? ⟨b, off + j * 4 + 1, none⟩ = some l[j].v := x1
              have y1 : wr.drew.cell? ⟨vb, 1, none⟩ = some (.slice A2 nlab c2) := later hB2 hlabv
              have HB2 := Lib.hid hB2
              have HC := Lib.hid hcall
              clear x0 x1 x2 x3 hxj hcall hBd hB2
              by_cases heq : l[j].lab = lab
              · have hd : decide (l[j].lab = lab) = true := by simpa using heq
                rw [hd] at HC
                have HF := Lib.hid (hI2.hit hpj heq)
                obtain ⟨A3, c3, e3, g1, g2, g3, g4, g5⟩ := own_rd encU_len rfl HRw.out.of
                have hjs : j < s.of.length := hjp
                obtain ⟨b3, off3, rfl, z3⟩ := rdU_at g5 hjs
                have hq0 := blk_cell hqw 0
                simp at hq0
                rw [e3] at hq0
                have hsl : s.of.length = k := by have := congrArg List.length HPV.out.1; simp at this; unfold Lk.of; simp; omega
                rw [hsl] at hq0
                have hjk' : (j : Int) < (k : Int) := by omega
                clear hd heq hI2 hpj e3 g1 g2 g3 g4 g5
                generalize l[j].v = lv at *
                generalize hoj : s.of[j] = oj at *
                have HF2 : Hid (lookRef H.ix s.prev lab = some oj) := Lib.hid (by rw [← hoj]; exact HF.out)
                clear HF hoj hjp
                go_wp2
                go_region_held3 (fun w' => w'.cell? ⟨b, off + j * 4 + 1, none⟩ = some lv ∧ w'.cell? ⟨vb, 1, none⟩ = some (.slice A2 nlab c2)) (first | exact ⟨y0, y1⟩ | exact ⟨later hb' y0, later hb' y1⟩)
                  (first | (go_at_call 76; refine HC.out.mono ?_; rintro e w' ⟨rfl, hb'⟩))
                have k0 := later hb' (show wr.drew.cell? ⟨w.heap.size + 1, 0, none⟩ = _ from later HB2.out hq0)
                have k3 := later hb' (show wr.drew.cell? ⟨b3, off3 + j, none⟩ = _ from later HB2.out z3)
                go_wp2
                go_roundw
                case rel => exact ⟨j + 1, true, oj, by omega, by go_num, rfl, rfl, .inl ⟨rfl, HF2.out⟩, bthen (bdrew HB2.out) hb'⟩
                case measure => simp [intOf]; omega
              · have hd : decide (l[j].lab = lab) = false := by simpa using heq
                rw [hd] at HC
                have HF := Lib.hid (hI2.miss hpj heq q)
                clear hd heq hI2 hpj hjp
                generalize l[j].v = lv at *
                go_wp2
                go_region_held3 (fun w' => w'.cell? ⟨b, off + j * 4 + 1, none⟩ = some lv ∧ w'.cell? ⟨vb, 1, none⟩ = some (.slice A2 nlab c2)) (first | exact ⟨y0, y1⟩ | exact ⟨later hb' y0, later hb' y1⟩)
                  (first | (go_at_call 76; refine HC.out.mono ?_; rintro e w' ⟨rfl, hb'⟩))
                go_wp2
                go_roundw
                case rel => exact ⟨j + 1, false, q, by omega, by go_num, rfl, rfl, HF.out, bthen (bdrew HB2.out) hb'⟩
                case measure => simp [intOf]; omega
            · have hnone := Lib.hid (hI2.none (by have := congrArg List.length HPV.out.1; simp at this; omega))
              have HB2 := Lib.hid hB2
              clear hI2 hB2
              go_wp2_with fail
              go_meet
              exact ⟨false, q, rfl, rfl, .inr ⟨rfl, hnone.out⟩, HB2.out⟩
      case rest =>
        obtain ⟨bq, q, rfl, rfl, hor, hB2⟩ := hcut
        have HOr := Lib.hid hor
        have HBc := Lib.hid hB2
        have hlabv' := later hB2 hlabv
        clear hor hB2 hlabv
        go_upto_if 60 with fail
        go_cut [8] (fun v8 wx => ∃ q', v8 = .int .u64 q' ∧ LookMid H.ix w (w.heap.size + 2) w.heap.size (w.heap.size + 1) s lab q' wx)
        case first =>
          have hqr := blk_below hqw HBc.out
          have HRr := Lib.hid (HRw.out.below (qb := w.heap.size + 1) (by omega) (by omega) HBc.out)
          have HBt := Lib.hid (bthen HBw'.out HBc.out)
          rcases HOr.out with ⟨rfl, hfd⟩ | ⟨rfl, hno⟩
          · have hst := lookStep_some hfd
            have HM : Hid (LookMid H.ix w (w.heap.size + 2) w.heap.size (w.heap.size + 1) s lab q wc) := Lib.hid ⟨⟨_, _, _, _, _, hqr, HRr.out, HBl.out, hst⟩, HBt.out⟩
            clear hfd hst hqr HRr HBt HOr
            go_wp2_with fail
            go_meet
            exact ⟨q, rfl, HM.out⟩
          · have Hst := Lib.hid (lookStep_none hno)
            have q01 := blk_cell hqr 1
            have q03 := blk_cell hqr 3
            have f03 := free_blk (i := 3) hqr
            simp at q01 q03
            have htop : IntKind.u64.wrap (s.top + 1) = s.top + 1 := by have := HTop.out; have := HPV.out.2; unfold IntKind.wrap; simp [IntKind.bits, IntKind.signed]; omega
            have HQ1 := Lib.hid (setCell_blk (i := 3) (.int .u64 (s.top + 1)) hqr)
            have HR1 : Hid (LkRest (wc.setCell ⟨w.heap.size + 1, 3, none⟩ (.int .u64 (s.top + 1))) (w.heap.size + 2) w.heap.size s.of s.of ofv bornv bl) := Lib.hid (HRr.out.frame (qb := w.heap.size + 1) (by omega) (by omega) (by simp [World.setCell]) (fun k _ hne => Below.heap_setCell _ _ _ _ hne))
            have HB1 : Hid (Below w.heap.size w (wc.setCell ⟨w.heap.size + 1, 3, none⟩ (.int .u64 (s.top + 1)))) := Lib.hid (HBt.out.setCell (by simp) _)
            have HL1 : Hid ((wc.setCell ⟨w.heap.size + 1, 3, none⟩ (.int .u64 (s.top + 1))).cell? ⟨vb, 1, none⟩ = some (.slice A2 nlab c2)) := Lib.hid (by rw [World.cell?_of_block (Below.heap_setCell _ _ _ _ (show vb ≠ w.heap.size + 1 from by have := Hvb.out; omega))]; exact hlabv')
            clear hno HOr hqr hlabv'
            go_upto_region 14 with fail
            simp only [List.setIfInBounds_toArray, List.set_cons_succ, List.set_cons_zero] at HQ1
            generalize wc.setCell ⟨w.heap.size + 1, 3, none⟩ (.int .u64 (s.top + 1)) = W1 at *
            have hqb := HQ1.out
            have y1 := blk_cell hqb 1
            simp at y1
            have x1 : W1.drew.cell? ⟨w.heap.size + 1, 1, none⟩ = some bornv := y1
            have x2 : W1.drew.cell? ⟨vb, 1, none⟩ = some (.slice A2 nlab c2) := HL1.out
            have HBd : Hid (Below W1.heap.size W1 W1.drew) := Lib.hid (bdrew (Below.refl _ _))
            clear y1 hqb q01 q03 f03
            have hblen : bl.length ≤ 16 := by
              have h3 : bl.length = s.born.length := by rw [← HBl.out]; simp
              have := HPV.out.2.2.2
              omega
            have HBlen := Lib.hid hblen
            clear hblen
            have N1 : Hid (some (w.heap.size + 1) ≠ bornv.ownBlock) := Lib.hid (fun e => by have := ownsRow_blk HR1.out.born _ e.symm; omega)
            have f0 : W1.drew.frozen? ⟨w.heap.size + 1, 1, none⟩ = false := free_blk (i := 1) HQ1.out
            go_region_law (first | (refine step_app2 (o := ⟨some 84, _, _, _, _, _⟩) (w0 := W1) (W0 := W1) (w.heap.size + 2) rfl _ _ 32 45 _ 4 64 1 (RecV.enc ⟨⟨1, IntKind.u32.wrap (s.top + 1), lab, []⟩, .slice A4 lab.length c4, .slice none 0 0⟩) rfl Tryz.underlying32 info_rec rfl (by decide) (by decide) bornv bl.length (bl.flatMap RecV.enc) rfl _ rfl ?_ HR1.out.born (Below.refl _ _) HR1.out.lt.2 ?_ ?_ ?_; (exact src_block (blk_new _ _) rfl (recV_one ⟨⟨1, IntKind.u32.wrap (s.top + 1), lab, []⟩, .slice A4 lab.length c4, .slice none 0 0⟩ rfl rfl) 1); (exact balloc HB4.out _); (have := HBlen.out; omega); intro v5 w5 hO5 hB5 hg5 hat5; obtain ⟨A5, c5, rfl⟩ := own_slice hO5; have hqb5 := blk_grown (blk_below HQ1.out (balloc HB4.out _)) hg5 N1.out; have HQ5 := Lib.hid hqb5; have HO5 := Lib.hid hO5; have HB5 := Lib.hid hB5; have HG5 := Lib.hid hg5; have HA5 := Lib.hid hat5; have q51 := blk_cell hqb5 1; have f51 := free_blk (i := 1) hqb5; simp at q51; clear hO5 hB5 hg5 hat5 hqb5) | (go_simp; go_at_call 77; refine (HCl.out _ (bthen HB1.out HBd.out)).mono ?_; rintro e w4 ⟨v4, rfl, hS4, hb4⟩; obtain ⟨A4, c4, rfl, hS4'⟩ := id hS4; have HS4 := Lib.hid hS4; have HB4 := Lib.hid (bthen HBd.out hb4); have z1 := later hb4 x1; have z2 := later hb4 x2; have z3 : ∀ o', (w4.alloc o').cell? ⟨w.heap.size + 1, 1, none⟩ = some bornv := (fun o' => later (balloc (Below.refl _ _) o') z1); clear hS4 hS4' hb4))
            all_goals
              go_wp2_with fail
              go_meet
              refine ⟨s.top + 1, rfl, ⟨⟨s.born ++ [⟨1, IntKind.u32.wrap (s.top + 1), lab, []⟩], s.top + 1, ofv, .slice A5 (bl.length + 1) c5, bl ++ [⟨⟨1, IntKind.u32.wrap (s.top + 1), lab, []⟩, .slice A4 lab.length c4, .slice none 0 0⟩], ?_, ?_, ?_, Hst.out⟩, ?_⟩⟩
              · exact born_blk HQ5.out
              · exact born_rest (qb := w.heap.size + 1) (r := ⟨1, IntKind.u32.wrap (s.top + 1), lab, []⟩) HR1.out HB4.out (show SlL w4 (fun k => W1.heap.size ≤ k) _ lab from HS4.out) HO5.out HG5.out (by simpa using HA5.out) (by omega) (by omega)
              · rw [List.map_append, HBl.out]; rfl
              · exact (HB1.out.trans (HB5.out.mono (by omega))).setCell (by simp) _
        case rest =>
          obtain ⟨q', rfl, hmid⟩ := hcut
          obtain ⟨⟨born', top', ofv', bornv', bl', hqr, hrr, hbl', hst'⟩, hBt⟩ := hmid
          have hsl : s.of.length = k := by have := congrArg List.length HPV.out.1; simp at this; unfold Lk.of; simp; omega
          have HSt := Lib.hid hst'
          have HBl' := Lib.hid hbl'
          have HRr := Lib.hid hrr
          have HBt := Lib.hid hBt
          have Hsl := Lib.hid hsl
          have q00 := blk_cell hqr 0
          simp at q00
          clear hst' hbl' hrr hBt hsl hqw HRw HRest HBl HBr HBw1 HBw' HOr HBc hlabv' HIX HSM HIn
          generalize wc = w3 at *
          have HBa : Hid (Below w3.heap.size w3 (w3.alloc (.cells #[.int .u64 q'] 23))) := Lib.hid (balloc (Below.refl _ _) _)
          have HSrc : Hid (SrcAt (w3.alloc (.cells #[.int .u64 q'] 23)) (.slice (some ⟨w3.heap.size, 0, none⟩) 1 1) 1 1 [.int .u64 q']) := Lib.hid (src_block (m := 1) (size := 1) (blk_new w3 (.cells #[.int .u64 q'] 23 (0, 0))) rfl (by intro u hu; simp at hu; subst hu; rfl) 1)
          have HRa := Lib.hid (HRr.out.below (qb := w.heap.size + 1) (by omega) (by omega) HBa.out)
          have HQa := Lib.hid (blk_below hqr HBa.out)
          have hq16 := hn
          go_wp2_with (at_builtin; refine wpList_app (w0 := w3.alloc (.cells #[.int .u64 q'] 23)) (w.heap.size + 2) rfl _ _ 89 23 _ 1 8 1 [.int .u64 q'] rfl Tryz.underlying89 info_u64 rfl (by decide) (by decide) ofv' s.of.length (s.of.flatMap encU) ?hs ?hx HRa.out.of (Below.refl _ _) HRa.out.lt.2 (by rw [Hsl.out]; omega) ?_)
          case hs => rfl
          case hx => exact HSrc.out
          intro v3 w6 hO3 hB3 hg3 hat3
          obtain ⟨A3, c3, rfl⟩ := own_slice hO3
          have hat3 := (show _ ∨ _ from hat3)
          have hq6 := blk_grown HQa.out hg3 (fun e => by have := ownsRow_blk HRa.out.of _ e.symm; omega)
          have q60 := blk_cell hq6 0
          have f60 := free_blk (i := 0) hq6
          simp at q60
          obtain ⟨e5, c5, cq2, hlk, hup, hr5, hq5⟩ := look_push (HRa.out.addOf hO3 hg3 (by simpa using hat3)) hq6 (by omega) (by omega)
          have HR5 := Lib.hid hr5
          have HQ5 := Lib.hid hq5
          have hcb : cntF s.of q' ≤ 16 := Nat.le_trans (cntF_le _ _) (by rw [Hsl.out]; omega)
          have HB6 : Hid (Below w.heap.size w w6) := Lib.hid ((bthen HBt.out HBa.out).trans (hB3.mono (by omega)))
          clear hO3 hB3 hg3 hat3 hr5 hq5 hq6
          go_wp2_with fail
          go_roundw
          case rel =>
            refine ⟨k + 1, by omega, by go_num, ⟨⟨.slice A3 (s.of.length + 1) c3, bornv', bl', ?_, ?_, ?_⟩, ?_⟩⟩
            · rw [HAdd.out, HSt.out]; exact HQ5.out
            · rw [HAdd.out, HSt.out]
              have := HR5.out
              unfold Lk.of at *
              simpa using this
            · rw [HAdd.out, HSt.out]; exact HBl'.out
            · exact setB_below (HB6.out.setCell (by simp) _) (by omega)
          case measure => simp [intOf] <;> omega
    · have hkk : l.take k = l := List.take_of_length_le (by rw [← Hn.out]; omega)
      rw [hkk] at hE
      obtain ⟨⟨ofv, bornv, bl, hq, hrest, hbl⟩, hB⟩ := hE
      have hfin : LookPost w (lookAll H.ix H.top (l.map Po.lab)) (.returned (.pointer (some ⟨w.heap.size + 1, 0, none⟩))) wr := ⟨w.heap.size + 1, w.heap.size + 2, w.heap.size, ofv, bornv, bl, rfl, hq, hrest, hbl, ⟨by omega, by omega, by omega, by omega⟩, hB⟩
      have HF := Lib.hid hfin
      clear hkk hq hrest hbl hB hfin
      go_wp2
      go_ret
      exact HF.out
end Go.Proofs.YtbjglcdoekbloaaGreatDoor
