import Derived.Test.YtfjlballemibjaaDoorGOrB
set_option linter.unusedSimpArgs false
set_option linter.unusedVariables false
set_option linter.unusedSectionVars false
/- the law HeadOrder: it returns true. -/
namespace Go.Proofs.YtfjlballemibjaaDoor
open Go.RowKit Go.Proofs.YtfjlballemibjaaDoor.MapRaw Go.ChangeMaps

theorem pts_len {H : Hd} {N : Nat} (hI : Inv H N) (h : Inv2 H) : H.pts.length ≤ N := by
  have h1 := (keys_perm h).length_eq
  simp only [List.length_map] at h1
  have := hI.len
  omega
theorem turn_eq {n k tn : Nat} {t : Int} (hn0 : 0 < n) (hn : n ≤ 20) (hk : k < n) (ht0 : 0 ≤ t) (htn : tn = t.toNat % n) : (wrap64 ((n : Int) - 1 - k + t % n)).tmod n = (turnF n tn k : Int) := by
  obtain ⟨tN, rfl⟩ := Int.eq_ofNat_of_zero_le ht0
  have htl : tn < n := by rw [htn]; exact Nat.mod_lt _ hn0
  have e1 : ((tN : Int) % (n : Int)) = (tn : Int) := by
    rw [htn]
    exact (Int.natCast_emod tN n).symm
  rw [e1, IntWalk.wrap64_in _ (by omega)]
  have e2 : (n : Int) - 1 - k + tn = ((n - 1 - k + tn : Nat) : Int) := by omega
  rw [e2]
  unfold turnF
  exact (Int.ofNat_tmod (n - 1 - k + tn) n).symm
set_option maxRecDepth 100000 in
set_option maxHeartbeats 4000000 in
theorem law_order {D : Nat → Prop} (v : Value) (l : List Wr) (t : Int) (w : World) (hv : Slc 2 Wr.enc w D v l) (hl : WrOk w D l) (hT : Tabs w) (h2 : 2 ≤ w.heap.size) (htb : t ≤ 9223372036854775807) :
    Calls Tryd.prog 4 #[v, .int .i64 t] w fun e w' => e = .returned (.bool true) ∧ Below w.heap.size w w' := by
  have HV := Lib.hid hv
  have HL := Lib.hid hl
  have HT := Lib.hid hT
  have hlive := fun (W : World) (hW : Below w.heap.size w W) => law_live W (hT.below hW h2) (Nat.le_trans h2 hW.size)
  have HLive := Lib.hid hlive
  have hwr := fun (W : World) (hW : Below w.heap.size w W) => law_writes v l W (hv.below hW) (hl.below hW)
  obtain ⟨A, c, rfl, p1, p2, p3, p4, p5⟩ := hv
  have HR := Lib.hid p5
  obtain ⟨n, hn⟩ : ∃ n, n = l.length := ⟨_, rfl⟩
  have Hn := Lib.hid hn
  have hwf : writesF l = true → n ≤ 20 := fun h => by unfold writesF at h; simp at h; omega
  have HWf := Lib.hid hwf
  rw [← hn] at hwr ⊢
  have HWr := Lib.hid hwr
  clear hlive hwr hwf hl hT p1 p2 p3 p4 p5 hn
  by_cases hw : writesF l = false
  · rw [hw] at HWr
    clear hw
    go_enter Tryd.func4, Tryd.ntmps4
    go_wp2_with fail
    refine (HLive.out w (Below.refl _ _)).mono ?_
    rintro e w1 ⟨rfl, hb1⟩
    have HB1 := Lib.hid hb1
    clear hb1
    go_wp2_with fail
    refine (HWr.out w1 HB1.out).mono ?_
    rintro e w2 ⟨rfl, hb2⟩
    have HB2 := Lib.hid (bthen HB1.out hb2)
    clear hb2
    go_wp2_with fail
    refine (HLive.out w2 HB2.out).mono ?_
    rintro e w3 ⟨rfl, hb3⟩
    have HB3 := Lib.hid (bthen HB2.out hb3)
    clear hb3
    go_wp2_with fail
    go_ret
    exact ⟨rfl, HB3.out⟩
  · have hw' : writesF l = true := by simpa using hw
    have hn20 := HWf.out hw'
    rw [hw'] at HWr
    clear hw hw'
    by_cases hout : n = 0 ∨ t < 0
    · obtain ⟨b0, hb0⟩ : ∃ b, ((n : Int) == 0) = b := ⟨_, rfl⟩
      obtain ⟨b1, hb1⟩ : ∃ b, decide (t < 0) = b := ⟨_, rfl⟩
      have hor : b0 = true ∨ b1 = true := by
        rcases hout with h | h
        · left; rw [← hb0]; simp [h]
        · right; rw [← hb1]; simpa using h
      have HOr := Lib.hid hor
      clear hout hor
      cases b0
      · have e1 : b1 = true := HOr.out.resolve_left (by decide)
        subst e1
        clear HOr
        go_enter Tryd.func4, Tryd.ntmps4
        go_wp2_with fail
        refine (HLive.out w (Below.refl _ _)).mono ?_
        rintro e w1 ⟨rfl, hb1⟩
        have HB1 := Lib.hid hb1
        clear hb1
        go_wp2_with fail
        refine (HWr.out w1 HB1.out).mono ?_
        rintro e w2 ⟨rfl, hb2⟩
        have HB2 := Lib.hid (bthen HB1.out hb2)
        clear hb2
        go_wp2_with fail
        refine (HLive.out w2 HB2.out).mono ?_
        rintro e w3 ⟨rfl, hb3⟩
        have HB3 := Lib.hid (bthen HB2.out hb3)
        clear hb3
        go_wp2_with fail
        go_ret
        exact ⟨rfl, HB3.out⟩
      · clear HOr hb1
        go_enter Tryd.func4, Tryd.ntmps4
        go_wp2_with fail
        refine (HLive.out w (Below.refl _ _)).mono ?_
        rintro e w1 ⟨rfl, hb1⟩
        have HB1 := Lib.hid hb1
        clear hb1
        go_wp2_with fail
        refine (HWr.out w1 HB1.out).mono ?_
        rintro e w2 ⟨rfl, hb2⟩
        have HB2 := Lib.hid (bthen HB1.out hb2)
        clear hb2
        go_wp2_with fail
        refine (HLive.out w2 HB2.out).mono ?_
        rintro e w3 ⟨rfl, hb3⟩
        have HB3 := Lib.hid (bthen HB2.out hb3)
        clear hb3
        go_wp2_with fail
        go_ret
        exact ⟨rfl, HB3.out⟩
    · have hn0 : 0 < n := by omega
      have ht0 : 0 ≤ t := by omega
      have g0 : ((n : Int) == 0) = false := by simp; omega
      have g1 : decide (t < 0) = false := decide_eq_false (by omega)
      clear hout
      go_enter Tryd.func4, Tryd.ntmps4
      go_wp2_with fail
      refine (HLive.out w (Below.refl _ _)).mono ?_
      rintro e w1 ⟨rfl, hb1⟩
      have HB1 := Lib.hid hb1
      clear hb1
      go_wp2_with fail
      refine (HWr.out w1 HB1.out).mono ?_
      rintro e w2 ⟨rfl, hb2⟩
      have HB2 := Lib.hid (bthen HB1.out hb2)
      have hnew := head_new w2
      unfold HNewPost at hnew
      have HNew := Lib.hid hnew
      clear hb2 hnew
      go_wp2_with fail
      refine HNew.out.mono ?_
      rintro e w3 ⟨oa, Xa, rfl, hha, hxa, hba⟩
      have hnew := head_new w3
      unfold HNewPost at hnew
      have HNew3 := Lib.hid hnew
      have HA3 := Lib.hid hha
      have HXa := Lib.hid hxa
      have HBa := Lib.hid hba
      clear hnew hha hxa hba HNew
      go_wp2_with fail
      refine HNew3.out.mono ?_
      rintro e w4 ⟨ob, Xb, rfl, hhb, hxb, hbb⟩
      have hTwo := Two.start (w := w) HA3.out (fun k hk => Nat.le_trans HB2.out.size (HXa.out k hk)) (bthen HB2.out HBa.out) hhb hxb hbb
      obtain ⟨tn, htn⟩ : ∃ tn : Nat, tn = t.toNat % n := ⟨_, rfl⟩
      have htl : tn < n := by rw [htn]; exact Nat.mod_lt _ hn0
      have hord : Ord w oa.hp ob.hp l (turnF n tn) 0 w4 := ⟨_, _, oa, ob, hTwo, rfl, rfl, Inv.start, Inv.start, Holds.start, Holds.start⟩
      have HO := Lib.hid hord
      have Htn := Lib.hid htn
      clear hhb hxb hbb hTwo hord HA3 HXa HBa HNew3 htn
      generalize oa.hp = pa at *
      generalize ob.hp = pb at *
      go_wp2_with fail
      go_loopw [47] (fun i wr => ∃ k : Nat, k ≤ n ∧ i = .int .i64 k ∧ Ord w pa pb l (turnF n tn) k wr) (fun i _ => n - (intOf i).toNat)
      case atStart => exact ⟨0, Nat.zero_le _, rfl, HO.out⟩
      case round =>
        obtain ⟨k, hk, rfl, hE⟩ := hrel
        obtain ⟨Ha, Hb, oa', ob', hTwo, hpa, hpb, hIa, hIb, hCa, hCb⟩ := hE.ex
        by_cases hlt : k < n
        · have hkl : k < l.length := by rw [← Hn.out]; exact hlt
          have hjl : turnF n tn k < l.length := by rw [← Hn.out]; exact turnF_lt hn0
          obtain ⟨b, off, rfl, z0, z1⟩ := rdW_at (Rd.below HR.out hTwo.below) hkl
          have hyc : ∀ W, Below w.heap.size w W → W.cell? ⟨b, off + turnF n tn k * 2, none⟩ = some (.int .u64 l[turnF n tn k].seq) ∧ W.cell? ⟨b, off + turnF n tn k * 2 + 1, none⟩ = some l[turnF n tn k].v := fun W hW => by
            obtain ⟨b'', off'', e, q1, q2⟩ := rdW_at (Rd.below HR.out hW) hjl
            cases e
            exact ⟨q1, q2⟩
          have HYc := Lib.hid hyc
          obtain ⟨ma, Ha', hIa', hCa', hcall⟩ := wrote_any2 hIa (by omega) hCa l[k]
          obtain ⟨mb, Hb', hIb', hCb', hcall'⟩ := wrote_any2 hIb (by omega) hCb l[turnF n tn k]
          have hx := HL.out _ (List.getElem_mem hkl)
          have hy := HL.out _ (List.getElem_mem hjl)
          have ea := seqC_add (l := l) (js := id) (k := k) (List.getElem?_eq_getElem hkl)
          have eb := seqC_add (l := l) (js := turnF n tn) (k := k) (List.getElem?_eq_getElem hjl)
          rw [← ea] at hCa'
          rw [← eb] at hCb'
          have HNext := Lib.hid (show Inv Ha' (16 * (k + 1)) ∧ Inv Hb' (16 * (k + 1)) ∧ Holds Ha' (seqC l id (k + 1)) ∧ Holds Hb' (seqC l (turnF n tn) (k + 1)) from ⟨hIa', hIb', hCa', hCb'⟩)
          have hca := hcall wr hTwo.a (hx.1.below hTwo.below) (hx.2.below hTwo.below) (fun k hk => Nat.le_trans h2 (hTwo.newa k hk)) (HT.out.below hTwo.below h2) (Nat.le_trans h2 hTwo.below.size)
          rw [hpa] at hca
          unfold WrotePost at hca
          have HCa := Lib.hid hca
          have hcb : ∀ (W : World), Below w.heap.size w W → ∀ o X, HeadAt W X o Hb → (∀ k ∈ X, w.heap.size ≤ k) → Calls Tryd.prog 10 #[.pointer (some ⟨o.hp, 0, none⟩), .agg #[.int .u64 l[turnF n tn k].seq, l[turnF n tn k].v]] W (WrotePost W X o mb true Hb') := fun W hW o X hh hX => hcall' W hh (hy.1.below hW) (hy.2.below hW) (fun k hk => Nat.le_trans h2 (hX k hk)) (HT.out.below hW h2) (Nat.le_trans h2 hW.size)
          unfold WrotePost at hcb
          have HCb := Lib.hid hcb
          have HTwo := Lib.hid hTwo
          have Hpa := Lib.hid hpa
          have Hpb := Lib.hid hpb
          have HSy := Lib.hid hy
          generalize hej : turnF n tn k = j at *
          have Hej := Lib.hid hej
          generalize l[k] = x at *
          generalize l[j] = y at *
          obtain ⟨seq, pv, posts⟩ := x
          obtain ⟨seq', pv', posts'⟩ := y
          simp only at z0 z1 HYc
          simp only at HCa HCb
          obtain ⟨⟨Ax, cx, ex, -⟩, -⟩ := hx
          obtain ⟨⟨Ay, cy, ey, -⟩, -⟩ := hy
          simp only at ex ey
          subst ex
          subst ey
          generalize posts.length = np at *
          generalize posts'.length = np' at *
          clear hyc hE hTwo hpa hpb hIa hIb hCa hCb hIa' hIb' hCa' hCb' hcall hcall' hca hcb ea eb hej
          go_wp2_with fail
          refine HCa.out.mono ?_
          rintro e w5 ⟨mv, o2, X2, rfl, hTu, hmv⟩
          obtain ⟨Am, cm, rfl, -⟩ := hmv
          have HTw5 := Lib.hid (HTwo.out.turn hTu)
          have Hp5 : Hid (o2.hp = pa) := Lib.hid (hTu.hp.trans Hpa.out)
          generalize ma.length = lma at *
          clear hTu HCa
          have hje := turn_eq (t := t) hn0 hn20 hlt ht0 Htn.out
          rw [Hej.out] at hje
          have hjn : j < n := by have := hjl; rw [← Hn.out] at this; exact this
          have hjz : (0 : Int) ≤ (j : Int) ∧ (j : Int) < (n : Int) := by omega
          obtain ⟨y0, y1⟩ := HYc.out w5 HTw5.out.below
          have hcb5 := HCb.out w5 HTw5.out.below ob' (blksH ob') HTw5.out.b HTw5.out.newb
          rw [Hpb.out] at hcb5
          have HCb5 := Lib.hid hcb5
          clear hcb5
          go_wp2_with fail
          refine HCb5.out.mono ?_
          rintro e w6 ⟨mv6, o6, X6, rfl, hTu6, hmv6⟩
          obtain ⟨Am6, cm6, rfl, -⟩ := hmv6
          have HTw6 := Lib.hid (HTw5.out.symm.turn hTu6).symm
          have Hp6 : Hid (o6.hp = pb) := Lib.hid (hTu6.hp.trans Hpb.out)
          generalize mb.length = lmb at *
          clear hTu6 HCb5 HCb y0 y1
          go_wp2_with fail
          go_roundw
          case rel => exact ⟨k + 1, by omega, by go_num, ⟨⟨Ha', Hb', o2, o6, HTw6.out, Hp5.out, Hp6.out, HNext.out.1, HNext.out.2.1, HNext.out.2.2.1, HNext.out.2.2.2⟩⟩⟩
          case measure => simp [intOf] <;> omega
        · have hkn : k = n := by omega
          subst hkn
          have hkl : k = l.length := Hn.out
          have heq : ∀ q, getF Ha q = getF Hb q := holds_eq hCa hCb (fun c => by rw [hkl]; exact seqC_turn (by rw [← hkl]; exact htl) c)
          have HEq := Lib.hid heq
          have hcnt := count_eq hCa.inv2 hCb.inv2 heq
          have hla := pts_len hIa hCa.inv2
          have hlb := pts_len hIb hCb.inv2
          have hall := head_all wr hTwo.a (by omega)
          rw [hpa] at hall
          unfold AllPost at hall
          have HAll := Lib.hid hall
          have hkeys : ∀ q ∈ allF Ha, getF Hb q.2.1 = some q.2.2 ∧ SzL q.2.1 := fun q hq => by rw [← heq]; exact all_get hCa.inv2 q hq
          have HKeys := Lib.hid hkeys
          have hca := fun (W : World) (hW : Below wr.heap.size wr W) => head_count W (hTwo.a.below hW) (show Ha.pts.length ≤ 1000000 by omega)
          have hcb := fun (W : World) (hW : Below wr.heap.size wr W) => head_count W (hTwo.b.below hW) (show Hb.pts.length ≤ 1000000 by omega)
          rw [hpa] at hca
          rw [hpb] at hcb
          unfold CountPost at hca hcb
          have HCa := Lib.hid hca
          have HCb := Lib.hid hcb
          have HCnt := Lib.hid hcnt
          have HTwo := Lib.hid hTwo
          have Hpb := Lib.hid hpb
          clear hE hTwo hpa hpb hIa hIb hCa hCb heq hcnt hla hlb hall hkeys hca hcb
          go_wp2_with fail
          refine HAll.out.mono ?_
          rintro e w7 ⟨sv, sl, rfl, hs1, hs2, hs3, hb7⟩
          obtain ⟨As, cs, rfl, hs6, hs7, -, -, hs5⟩ := hs1
          have hs8 : sl.length ≤ 9223372036854775807 := by simp only [maxLen] at hs7; omega
          have HRs := Lib.hid hs5
          have HOs := Lib.hid hs2
          have HKs := Lib.hid hs3
          have HB7 := Lib.hid hb7
          obtain ⟨m, hm⟩ : ∃ m, m = sl.length := ⟨_, rfl⟩
          have Hm := Lib.hid hm
          rw [← hm] at hs8 ⊢
          clear hs2 hs3 hs5 hs6 hs7 hb7 hm HAll
          go_wp2_with fail
          go_loopw [90] (fun i wx => ∃ j : Nat, j ≤ m ∧ i = .int .i64 j ∧ Below w7.heap.size w7 wx) (fun i _ => m - (intOf i).toNat)
          case atStart => exact ⟨0, Nat.zero_le _, rfl, Below.refl _ _⟩
          case round =>
            obtain ⟨j, hj, rfl, hB⟩ := hrel
            by_cases hlt : j < m
            · have hjl : j < sl.length := by rw [← Hm.out]; exact hlt
              obtain ⟨bs, os, rfl, z0, z1, z2⟩ := rdSr_at (Rd.below HRs.out hB) hjl
              have hxo := HOs.out _ (List.getElem_mem hjl)
              have hxk := HKeys.out sl[j].key (by rw [← HKs.out]; exact List.mem_map_of_mem (List.getElem_mem hjl))
              generalize sl[j] = x at *
              obtain ⟨xr, lv, lab, pv, pts⟩ := x
              simp only [Sr.key] at hxk
              simp only at z0 z1 z2 hxo
              have hb1 : Below wr.heap.size wr (wr.alloc (.cells #[.int .u32 xr, lv, pv] 51)) := balloc (Below.refl _ _) _
              have a1 : (wr.alloc (.cells #[.int .u32 xr, lv, pv] 51)).cell? ⟨wr.heap.size, 1, none⟩ = some lv := by simp
              have a2 : (wr.alloc (.cells #[.int .u32 xr, lv, pv] 51)).cell? ⟨wr.heap.size, 2, none⟩ = some pv := by simp
              have hB' := bthen hB hb1
              have hBw := bthen HB7.out hB'
              have hget := head_get lv lab (wr.alloc (.cells #[.int .u32 xr, lv, pv] 51)) (HTwo.out.b.below hBw) (hxo.1.below hB') hxk.2 (HT.out.below (bthen HTwo.out.below hBw) h2) (Nat.le_trans h2 (bthen HTwo.out.below hBw).size)
              rw [Hpb.out, hxk.1] at hget
              unfold GetPost at hget
              have HGet := Lib.hid hget
              have HXo := Lib.hid (hxo.2.below hB')
              have HB1 := Lib.hid hB'
              obtain ⟨Al, cl, rfl, -⟩ := hxo.1
              obtain ⟨Ap, cp, rfl, -⟩ := hxo.2
              have HA2 := Lib.hid a2
              generalize lab.length = nlab at *
              clear hB hB' hBw hget hb1 hxo a2 hxk
              go_wp2_with fail
              refine HGet.out.mono ?_
              rintro e w8 ⟨v8, rfl, hv8, hb8⟩
              simp only [Option.getD_some, Option.isSome_some] at hv8 ⊢
              have hs9 := same_pts w8 hv8 (HXo.out.below hb8) w8 (Below.refl _ _)
              have HS9 := Lib.hid hs9
              obtain ⟨A8, c8, rfl, -⟩ := hv8
              have a8 := later hb8 HA2.out
              have HB8 := Lib.hid (bthen HB1.out hb8)
              generalize pts.length = npts at *
              clear hs9 hb8 HGet z0 z1 z2 a1
              go_wp2_with fail
              refine HS9.out.mono ?_
              rintro e w9 ⟨rfl, hb9⟩
              have HB9 := Lib.hid (bthen HB8.out hb9)
              clear hb9 a8
              go_wp2_with fail
              go_roundw
              case rel => exact ⟨j + 1, by omega, by go_num, HB9.out⟩
              case measure => simp [intOf] <;> omega
            · have HBx := Lib.hid (bthen HB7.out hB)
              have hc1 := HCa.out _ HBx.out
              have HC1 := Lib.hid hc1
              clear hc1 hB
              go_wp2_with fail
              refine HC1.out.mono ?_
              rintro e w8 ⟨rfl, hb8⟩
              have hc2 := HCb.out _ (bthen HBx.out hb8)
              have HC2 := Lib.hid hc2
              have HB8 := Lib.hid (bthen HBx.out hb8)
              clear hc2 hb8
              go_wp2_with fail
              refine HC2.out.mono ?_
              rintro e w9 ⟨rfl, hb9⟩
              have HB9 := Lib.hid (bthen HTwo.out.below (bthen HB8.out hb9))
              obtain ⟨c1, c2⟩ := HCnt.out
              rw [c1, c2]
              generalize Hb.ix.all.length = na at *
              generalize cntP Hb = nb at *
              clear hb9 c1 c2
              go_wp2_with fail
              go_ret
              exact ⟨rfl, HB9.out⟩
end Go.Proofs.YtfjlballemibjaaDoor
