import Derived.Test.YtfjlballemibjaaDoorGLaB
set_option linter.unusedSimpArgs false
set_option linter.unusedVariables false
set_option linter.unusedSectionVars false
/- the law HeadMarks: it returns true. -/
namespace Go.Proofs.YtfjlballemibjaaDoor
open Go.RowKit Go.Proofs.YtfjlballemibjaaDoor.MapRaw Go.ChangeMaps

theorem Inv.mono {H : Hd} {N M : Nat} (h : Inv H N) (hM : N ≤ M) : Inv H M :=
  ⟨⟨h.top.1, by have := h.top.2; omega⟩, Nat.le_trans h.len hM, h.keys, h.refs, h.ptk, fun r => ⟨(h.pts r).1, Nat.le_trans (h.pts r).2 hM⟩⟩
theorem wrote_any {D : Nat → Prop} {X : List Nat} {o : HLoc} {H : Hd} {N : Nat} (hI : Inv H N) (hN : N ≤ 400) (x : Wr) : ∃ marks H', Inv H' (N + 16) ∧ marks.length ≤ 16 ∧ (∀ (i : Nat) (h1 : i < marks.length), ∃ h2 : i < x.posts.length, MarkGood H' x.seq x.posts[i] marks[i]) ∧
    ∀ w : World, HeadAt w X o H → Slc 4 Po.enc w D x.v x.posts → PoOk w D x.posts → (∀ k ∈ X, 2 ≤ k) → Tabs w → 2 ≤ w.heap.size → Calls Tryd.prog 10 #[.pointer (some ⟨o.hp, 0, none⟩), .agg #[.int .u64 x.seq, x.v]] w (WrotePost w X o marks true H') := by
  have ht : 0 ≤ H.top ∧ H.top ≤ 4294967295 := ⟨hI.top.1, by have := hI.top.2; omega⟩
  have hal : H.ix.all.length ≤ 1000000 := by have := hI.len; omega
  rcases write_ok hI hN x with ⟨n, hn, hp⟩ | ⟨recs, marks, H', d⟩
  · refine ⟨[], H, hI.mono (by omega), by simp, fun i h1 => by simp at h1, fun w h hv hl hX hT h2 => ?_⟩
    exact wrote_err x n w h hv hl hT h2 ht hal hp hn
  · refine ⟨marks, H', d.inv, d.len16, fun i h1 => ⟨by rw [← d.len]; exact h1, d.good i h1 (by rw [← d.len]; exact h1)⟩, fun w h hv hl hX hT h2 => ?_⟩
    exact wrote_ok x recs marks w h hv hl hX hT h2 ht hal d.plan d.rec_ d.len d.len16 d.fit d.recs
theorem rdM_at {w : World} {A : Option Addr} {l : List Mk} (h : Rd 2 Mk.enc w A l) {k : Nat} (hk : k < l.length) :
    ∃ b off, A = some ⟨b, off, none⟩ ∧ w.cell? ⟨b, off + k * 2, none⟩ = some (.int .i64 l[k].at_) ∧ w.cell? ⟨b, off + k * 2 + 1, none⟩ = some (.bool l[k].ok) := by
  obtain ⟨b, off, e, h⟩ := h k l[k] (List.getElem?_eq_getElem hk)
  exact ⟨b, off, e, h 0 _ rfl, h 1 _ rfl⟩
theorem Slc.rd {α : Type} {sz : Nat} {enc : α → List Value} {w : World} {D : Nat → Prop} {A : Option Addr} {n c : Nat} {l : List α} (h : Slc sz enc w D (.slice A n c) l) : n = l.length ∧ Rd sz enc w A l := by
  obtain ⟨_, _, e, _, _, _, _, hr⟩ := h
  cases e
  exact ⟨rfl, hr⟩
/-- a head of the call's own, in place -/
structure At1 (w : World) (hp : Nat) (N : Nat) (w' : World) : Prop where
  ex : ∃ H o X, Inv H N ∧ Mine w X o H w' ∧ o.hp = hp

set_option maxRecDepth 100000 in
set_option maxHeartbeats 4000000 in
theorem law_marks {D : Nat → Prop} (v : Value) (l : List Wr) (w : World) (hv : Slc 2 Wr.enc w D v l) (hl : WrOk w D l) (hT : Tabs w) (h2 : 2 ≤ w.heap.size) :
    Calls Tryd.prog 3 #[v] w fun e w' => e = .returned (.bool true) ∧ Below w.heap.size w w' := by
  have HV := Lib.hid hv
  have HL := Lib.hid hl
  have HT := Lib.hid hT
  have hlive := fun (W : World) (hW : Below w.heap.size w W) => law_live W (hT.below hW h2) (Nat.le_trans h2 hW.size)
  have HLive := Lib.hid hlive
  have hwr := fun (W : World) (hW : Below w.heap.size w W) => law_writes v l W (hv.below hW) (hl.below hW)
  obtain ⟨A, c, rfl, p1, p2, p3, p4, p5⟩ := hv
  have HR := Lib.hid p5
  obtain ⟨n, hn⟩ : ∃ n, n = l.length := ⟨_, rfl⟩
  have Hn := Lib.hid hn
  have hwf : writesF l = true → n ≤ 20 := fun h => by unfold writesF at h; simp at h; omega
  have HWf := Lib.hid hwf
  rw [← hn] at hwr ⊢
  have HWr := Lib.hid hwr
  clear hlive hwr hwf hl hT p1 p2 p3 p4 p5 hn
  by_cases hw : writesF l = false
  · rw [hw] at HWr
    clear hw
    go_enter Tryd.func3, Tryd.ntmps3
    go_wp2_with fail
    refine (HLive.out w (Below.refl _ _)).mono ?_
    rintro e w1 ⟨rfl, hb1⟩
    have HB1 := Lib.hid hb1
    clear hb1
    go_wp2_with fail
    refine (HWr.out w1 HB1.out).mono ?_
    rintro e w2 ⟨rfl, hb2⟩
    have HB2 := Lib.hid (bthen HB1.out hb2)
    clear hb2
    go_wp2_with fail
    refine (HLive.out w2 HB2.out).mono ?_
    rintro e w3 ⟨rfl, hb3⟩
    have HB3 := Lib.hid (bthen HB2.out hb3)
    clear hb3
    go_wp2_with fail
    go_ret
    exact ⟨rfl, HB3.out⟩
  · have hw' : writesF l = true := by simpa using hw
    have hn20 := HWf.out hw'
    rw [hw'] at HWr
    clear hw hw'
    go_enter Tryd.func3, Tryd.ntmps3
    go_wp2_with fail
    refine (HLive.out w (Below.refl _ _)).mono ?_
    rintro e w1 ⟨rfl, hb1⟩
    have HB1 := Lib.hid hb1
    clear hb1
    go_wp2_with fail
    refine (HWr.out w1 HB1.out).mono ?_
    rintro e w2 ⟨rfl, hb2⟩
    have HB2 := Lib.hid (bthen HB1.out hb2)
    have hnew := head_new w2
    unfold HNewPost at hnew
    have HNew := Lib.hid hnew
    clear hb2 hnew
    go_wp2_with fail
    refine HNew.out.mono ?_
    rintro e w3 ⟨o, X, rfl, hh, hx, hb⟩
    have HA : Hid (At1 w o.hp (16 * 0) w3) := Lib.hid ⟨H0, o, X, Inv.start, ⟨hh, fun k hk => Nat.le_trans HB2.out.size (hx k hk), bthen HB2.out hb⟩, rfl⟩
    clear hh hx hb HNew
    generalize o.hp = hp at *
    go_wp2_with fail
    go_loopw [28] (fun i wr => ∃ k : Nat, k ≤ n ∧ i = .int .i64 k ∧ At1 w hp (16 * k) wr) (fun i _ => n - (intOf i).toNat)
    case atStart => exact ⟨0, Nat.zero_le _, rfl, HA.out⟩
    case round =>
      obtain ⟨k, hk, rfl, hE⟩ := hrel
      obtain ⟨H, o', X', hI, hM, hop⟩ := hE.ex
      by_cases hlt : k < n
      · have hkl : k < l.length := by rw [← Hn.out]; exact hlt
        obtain ⟨b, off, rfl, z0, z1⟩ := rdW_at (Rd.below HR.out hM.below) hkl
        have hx := HL.out _ (List.getElem_mem hkl)
        obtain ⟨marks, H', hI', hm16, hgood, hcall⟩ := wrote_any (D := D) (X := X') (o := o') hI (by omega) l[k]
        generalize l[k] = x at *
        obtain ⟨seq, pv, posts⟩ := x
        simp only at z0 z1 hx hgood hcall
        have hbw : Below wr.heap.size wr (wr.alloc (.cells #[.int .u64 seq, pv] 30)) := balloc (Below.refl _ _) _
        have hMa := hM.then hbw
        have hwro := hcall _ hMa.head (hx.1.below hMa.below) (hx.2.below hMa.below) (fun k hk => Nat.le_trans h2 (hM.new k hk)) (HT.out.below hMa.below h2) (Nat.le_trans h2 hMa.below.size)
        rw [hop] at hwro
        unfold WrotePost at hwro
        have HWro := Lib.hid hwro
        have HMa := Lib.hid hMa
        have Hop := Lib.hid hop
        have HI' := Lib.hid hI'
        have HGood := Lib.hid hgood
        have HPs := Lib.hid hx
        obtain ⟨⟨Ap, cp, rfl, -⟩, -⟩ := hx
        obtain ⟨np, hnp⟩ : ∃ np, np = posts.length := ⟨_, rfl⟩
        have Hnp := Lib.hid hnp
        rw [← hnp] at HPs HMa HWro z1
        have bx0 : (wr.alloc (.cells #[.int .u64 seq, .slice Ap np cp] 30)).cell? ⟨wr.heap.size, 0, none⟩ = some (.int .u64 seq) := by simp
        have bx1 : (wr.alloc (.cells #[.int .u64 seq, .slice Ap np cp] 30)).cell? ⟨wr.heap.size, 1, none⟩ = some (.slice Ap np cp) := by simp
        have HBx0 := Lib.hid bx0
        have HBx1 := Lib.hid bx1
        have HXlt := Lib.hid hM.head.inn.ix.lt
        have Hnm16 := Lib.hid hm16
        clear hI hM hop hE hMa hbw hcall hwro hI' hgood hnp bx0 bx1 hm16
        go_wp2_with fail
        refine HWro.out.mono ?_
        rintro e w4 ⟨mv, o2, X2, rfl, hTu, hmv⟩
        have bx0 := hTu.apart.cell (g := wr.heap.size) (fun hm => by have := HXlt.out _ hm; omega) HBx0.out
        have bx1 := hTu.apart.cell (g := wr.heap.size) (fun hm => by have := HXlt.out _ hm; omega) HBx1.out
        have hM4 : Mine w X2 o2 H' w4 := ⟨hTu.head, fun k hk => (hTu.more.new k hk).elim (HMa.out.new k) (fun h => Nat.le_trans HMa.out.below.size h), apart_below HMa.out.below hTu.apart HMa.out.new⟩
        have HM4 := Lib.hid hM4
        have Hop4 : Hid (o2.hp = hp) := Lib.hid (hTu.hp.trans Hop.out)
        obtain ⟨Am, cm, rfl, q1, q2, q3, q4, q5⟩ := hmv
        have HMr := Lib.hid q5
        obtain ⟨nm, hnm⟩ : ∃ nm, nm = marks.length := ⟨_, rfl⟩
        have Hnm := Lib.hid hnm
        have hnm16 : nm ≤ 16 := by have := Hnm16.out; omega
        rw [← hnm]
        generalize hwb : wr.heap.size = wb at *
        clear hwb
        clear hTu hM4 q1 q2 q3 q4 q5 hnm HWro HMa Hop HBx0 HBx1 HXlt Hnm16
        go_wp2_with fail
        go_loopw [42] (fun i wi => ∃ j : Nat, j ≤ nm ∧ i = .int .i64 j ∧ Below w4.heap.size w4 wi) (fun i _ => nm - (intOf i).toNat)
        case atStart => exact ⟨0, Nat.zero_le _, rfl, Below.refl _ _⟩
        case round =>
          obtain ⟨j, hj, rfl, hB⟩ := hrel
          by_cases hjl : j < nm
          · have hjm : j < marks.length := by rw [← Hnm.out]; exact hjl
            obtain ⟨hjp, hg⟩ := HGood.out j hjm
            obtain ⟨bm, om, rfl, y0, y1⟩ := rdM_at (Rd.below HMr.out hB) hjm
            have hBt := bthen HM4.out.below hB
            have hps := (HPs.out.1.below hBt)
            have hR5 := hps.rd.2
            obtain ⟨bp, op, rfl, t0, t1, t2, t3⟩ := rdO_at hR5 hjp
            have hxp := (HPs.out.2.below hBt) _ (List.getElem_mem hjp)
            obtain ⟨lp, q, hget, hlp, hhas, hq, hat, hok, hqs⟩ := hg.ex
            generalize marks[j] = mk at *
            generalize posts[j] = x at *
            obtain ⟨mat, mok⟩ := mk
            obtain ⟨xat, xv, lab, xT, xV⟩ := x
            simp only at y0 y1 t0 t1 t2 t3 hxp hget hhas hq hat hok
            subst hat
            have Hok : Hid (decide (q.V = xV) = mok) := Lib.hid hok.symm
            clear hok
            have hgt := fun (W : World) (hW : Below wr.heap.size wr W) => head_get xv lab W ((HM4.out.then hB).then hW).head (hxp.1.below hW) hxp.2 (HT.out.below (bthen hBt hW) h2) (Nat.le_trans h2 (bthen hBt hW).size)
            rw [hget, Hop4.out] at hgt
            unfold GetPost at hgt
            obtain ⟨⟨Axv, cxv, rfl, -⟩, -⟩ := hxp
            have HGt := Lib.hid hgt
            have HBt := Lib.hid hBt
            have HBj := Lib.hid hB
            have hlo : lowP lp xT < lp.length := (List.getElem?_eq_some_iff.1 hq).1
            have c0' := later hB bx0
            have c1' := later hB bx1
            generalize lab.length = nlab at *
            have hb1 : Below wr.heap.size wr (wr.alloc (.cells #[.int .i64 mat, .bool mok] 35)) := balloc (Below.refl _ _) _
            have k1 := later hb1 c1'
            have kt0 := later hb1 t0
            have kt1 := later hb1 t1
            have kt2 := later hb1 t2
            have kt3 := later hb1 t3
            have hjp' : (j : Int) < (np : Int) := by rw [Hnp.out]; omega
            have hb2 : Below wr.heap.size wr ((wr.alloc (.cells #[.int .i64 mat, .bool mok] 35)).alloc (.cells #[.int .i64 mat, .slice Axv nlab cxv, .int .i64 xT, .int .u64 xV] 39)) := balloc hb1 _
            have HB2 := Lib.hid hb2
            clear hget hgt hB hBt hg hb1 hR5 hb2 hps
            have v00 : ((wr.alloc (.cells #[.int .i64 mat, .bool mok] 35)).alloc (.cells #[.int .i64 mat, .slice Axv nlab cxv, .int .i64 xT, .int .u64 xV] 39)).cell? ⟨wr.heap.size, 0, none⟩ = some (.int .i64 mat) := later (balloc (Below.refl _ _) _) (by simp)
            have v01 : ((wr.alloc (.cells #[.int .i64 mat, .bool mok] 35)).alloc (.cells #[.int .i64 mat, .slice Axv nlab cxv, .int .i64 xT, .int .u64 xV] 39)).cell? ⟨wr.heap.size, 1, none⟩ = some (.bool mok) := later (balloc (Below.refl _ _) _) (by simp)
            have v10 : ((wr.alloc (.cells #[.int .i64 mat, .bool mok] 35)).alloc (.cells #[.int .i64 mat, .slice Axv nlab cxv, .int .i64 xT, .int .u64 xV] 39)).cell? ⟨wr.heap.size + 1, 0, none⟩ = some (.int .i64 mat) := by
              simp
            have v12 : ((wr.alloc (.cells #[.int .i64 mat, .bool mok] 35)).alloc (.cells #[.int .i64 mat, .slice Axv nlab cxv, .int .i64 xT, .int .u64 xV] 39)).cell? ⟨wr.heap.size + 1, 2, none⟩ = some (.int .i64 xT) := by
              simp
            have v13 : ((wr.alloc (.cells #[.int .i64 mat, .bool mok] 35)).alloc (.cells #[.int .i64 mat, .slice Axv nlab cxv, .int .i64 xT, .int .u64 xV] 39)).cell? ⟨wr.heap.size + 1, 3, none⟩ = some (.int .u64 xV) := by
              simp
            have s0 := later HB2.out c0'
            have HV00 := Lib.hid v00
            have HV01 := Lib.hid v01
            have HV10 := Lib.hid v10
            have HV12 := Lib.hid v12
            have HV13 := Lib.hid v13
            have HS0 := Lib.hid s0
            clear v00 v01 v10 v12 v13 s0
            go_wp2_with fail
            refine (HGt.out _ HB2.out).mono ?_
            rintro e w5 ⟨v9, rfl, hv9, hb5⟩
            simp only [Option.getD_some, Option.isSome_some] at hv9
            obtain ⟨A9, c9, rfl, -, -, -, -, hR9⟩ := hv9
            have hfd := fun (W : World) (hW : Below w5.heap.size w5 W) => ref_find A9 c9 lp xT W (RdP.below hR9 hW) (by omega)
            rw [hhas] at hfd
            have HFd := Lib.hid hfd
            have x12 := later hb5 HV12.out
            have HB5 := Lib.hid hb5
            have HR9 := Lib.hid hR9
            have Hq := Lib.hid hq
            have hlo' : ((lowP lp xT : Nat) : Int) < (lp.length : Int) := by omega
            clear hfd hb5 hR9 hq hhas hlo kt0 kt1 kt2 kt3 k1 HGt t0 t1 t2 t3 y0 y1 bx0 bx1
            simp only [Option.getD_some, Option.isSome_some]
            go_wp2_with fail
            refine (HFd.out w5 (Below.refl _ _)).mono ?_
            rintro e w6 ⟨rfl, hb6⟩
            obtain ⟨b9, o9, eA9, r0, r1, r2⟩ := RdP.at_ (RdP.below HR9.out hb6) (List.getElem?_eq_some_iff.1 Hq.out).1
            rw [(List.getElem?_eq_some_iff.1 Hq.out).2] at r0 r1 r2
            subst eA9
            have x00 := later hb6 (later HB5.out HV00.out)
            have x01 := later hb6 (later HB5.out HV01.out)
            have x10 := later hb6 (later HB5.out HV10.out)
            have x13 := later hb6 (later HB5.out HV13.out)
            have xs0 := later hb6 (later HB5.out HS0.out)
            have HB6 := Lib.hid (bthen HBj.out (bthen HB2.out (bthen HB5.out hb6)))
            clear hb6 HFd HB5 HR9 Hq
            generalize lowP lp xT = lo at *
            generalize lp.length = nlp at *
            obtain ⟨qT, qV, qS⟩ := q
            simp only at r0 r1 r2 hqs Hok
            have hqs' : decide (seq < qS) = false := decide_eq_false (by omega)
            have hvv : (qV == xV) = mok := Hok.out
            cases mok
            all_goals
              go_wp2
              go_quiet (fail)
              go_wp2
              go_roundw
              case rel => exact ⟨j + 1, by omega, by go_num, bdr HB6.out _⟩
              case measure => simp [intOf] <;> omega
          · have HB := Lib.hid (bthen HM4.out.below hB)
            have HAt : Hid (At1 w hp (16 * (k + 1)) wr) := Lib.hid ⟨H', o2, X2, HI'.out, HM4.out.then hB, Hop4.out⟩
            clear hB
            go_wp2_with fail
            go_roundw
            case rel => exact ⟨k + 1, by omega, by go_num, HAt.out⟩
            case measure => simp [intOf] <;> omega
      · have HB := Lib.hid hM.below
        clear hE hM hI hop
        go_wp2_with fail
        go_ret
        exact ⟨rfl, HB.out⟩
end Go.Proofs.YtfjlballemibjaaDoor
