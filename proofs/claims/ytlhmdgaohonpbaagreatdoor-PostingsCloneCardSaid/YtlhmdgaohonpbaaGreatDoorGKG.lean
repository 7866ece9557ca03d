import Derived.Test.YtlhmdgaohonpbaaGreatDoorGKE
import Derived.Test.YtlhmdgaohonpbaaGreatDoorGRm
set_option linter.unusedSimpArgs false
set_option linter.unusedVariables false
set_option linter.unusedSectionVars false
namespace Go.Proofs.YtlhmdgaohonpbaaGreatDoor
open Go.RowKit Go.Proofs.YtlhmdgaohonpbaaGreatDoor.MapRaw Go.ChangeMaps
def agN (f : List Bool → List Bool) (b4 b5 : Bool) (fr : List Bool) : List Bool :=
 if b5 = true then joinB (if b4 = true then fr else noneB fr) (f fr) else loopN f (fr.length + 1) (if b4 = true then fr else noneB fr) fr
theorem ap_cell {W W' : World} {g fb b o : Nat} {v : Value} (hA : Apart (fun j => j = g ∨ j = fb) W W') (h1 : b ≠ g) (h2 : b ≠ fb) (h : W.cell? ⟨b, o, none⟩ = some v) : W'.cell? ⟨b, o, none⟩ = some v :=
 hA.cell (fun e => e.elim h1 h2) h
set_option maxRecDepth 100000 in
set_option maxHeartbeats 8000000 in
theorem k_ends_again {pb : Nat} {lv : Value} {top : Int} {l : List Nc} {i a : Nat} {kd : Int} {b4 b5 : Bool} {x : Nd} (e0 : (kd == 0) = false) (e6 : (kd == 6) = false) (e1 : (kd == 1) = false) (e2 : (kd == 2) = false) (e4 : (kd != 4) = b4) (e5 : (kd == 5) = b5) (hk : (l.map Nc.key)[i]? = some ⟨kd, a, 0, [], false⟩) (hA : DEnds pb lv top l a x)
  (w : World) (D1 D2 : Nat → Prop) (rv fv : Value) (rs : List Int) (fr : List Bool) (hX : XAt pb lv top l w) (hr : Slc 1 encR w D1 rv rs) (hf : Slc 1 encB w D2 fv fr) (hlen : fr.length = rs.length + 1) (hl6 : rs.length ≤ 1000000) :
  Calls Tryz.prog 130 #[.pointer (some ⟨pb, 3, none⟩), .int .i64 i, rv, fv] w (DPost w (agN (endsN x rs) b4 b5 fr)) := by
 obtain ⟨nb, off, c, sv, rfl, c3, hil, z0, z1, z2, z3, z4, hsv⟩ := xat_node hX hk
 have HEl := Lib.hid fun (o : List Bool) (ho : o.length = fr.length) => (endsN_len x rs (ho.trans hlen)).trans hlen.symm
 have HEnds := Lib.hid fun (W : World) (hW : Below w.heap.size w W) (D : Nat → Prop) (nv : Value) (now : List Bool) (hn : Slc 1 encB W D nv now) (hnl : now.length = fr.length) => hA W D1 D rv nv rs now (hX.below hW) (hr.below hW) hn (hnl.trans hlen) hl6
 have HF := Lib.hid hf
 have HSrc := Lib.hid (hf.src b_len (fun x u hu => by simp [encB] at hu; subst hu; rfl) (by decide))
 have Hpos : Hid (0 < fr.length ∧ fr.length ≤ 1000001) := Lib.hid (by omega)
 have HRes : Hid (agN (endsN x rs) b4 b5 fr = if b5 = true then joinB (if b4 = true then fr else noneB fr) (endsN x rs fr) else loopN (endsN x rs) (fr.length + 1) (if b4 = true then fr else noneB fr) fr) := Lib.hid rfl
 generalize agN (endsN x rs) b4 b5 fr = res at *
 generalize endsN x rs = f at *
 obtain ⟨As, cs, rfl, -⟩ := hsv
 obtain ⟨i0, hi, hz0, hz1, hz2⟩ := info_parts info_bool
 obtain ⟨A4, c4, rfl, -⟩ := id hf
 obtain ⟨A3, c3', rfl, -⟩ := id hr
 have hi0 : (0 : Int) ≤ (i : Int) := by omega
 have hi1 : (i : Int) < (l.length : Int) := by omega
 generalize hll : l.length = ll at *
 generalize rs.length = rl at *
 simp only [List.length_nil] at z3
 clear hX hr hf hlen hl6 hil hk hA hll
 go_enter Tryz.func130, Tryz.ntmps130
 go_upto_region 2 with fail
 have HB0 := Lib.hid (balloc (Below.refl w.heap.size w) (.cells #[.int .i64 kd, .int .i64 a, .int .i64 0, .slice As 0 cs, .bool false] 183))
 have hblk := blk_new w (.cells #[.int .i64 kd, .int .i64 a, .int .i64 0, .slice As 0 cs, .bool false] 183)
 have hnb : w.heap.size < (w.alloc (.cells #[.int .i64 kd, .int .i64 a, .int .i64 0, .slice As 0 cs, .bool false] 183)).heap.size := by rw [show (w.alloc (.cells #[.int .i64 kd, .int .i64 a, .int .i64 0, .slice As 0 cs, .bool false] 183)).heap.size = w.heap.size + 1 from Array.size_push _]; omega
 have n0 : (w.alloc (.cells #[.int .i64 kd, .int .i64 a, .int .i64 0, .slice As 0 cs, .bool false] 183)).cell? ⟨w.heap.size, 0, none⟩ = some (.int .i64 kd) := by simp
 generalize w.alloc (.cells #[.int .i64 kd, .int .i64 a, .int .i64 0, .slice As 0 cs, .bool false] 183) = w1 at *
 have HNb := Lib.hid hnb
 have HBlk : Hid (∀ W, Below w1.heap.size w1 W → W.cell? ⟨w.heap.size, 0, none⟩ = some (.int .i64 kd) ∧ W.cell? ⟨w.heap.size, 1, none⟩ = some (.int .i64 a)) := Lib.hid (fun W hW => by
  have hb := blk_below hblk hW
  have m0 := blk_cell hb 0
  have m1 := blk_cell hb 1
  simp at m0 m1
  exact ⟨m0, m1⟩)
 clear hblk hnb z0 z1 z2 z3 z4 c3
 go_upto_if 34 with (at_make; refine wpList_make_full _ rfl _ _ 175 rfl w1.heap.size 4 i0 _ 1 Tryz.underlying175 hi hz0 hz1 .i64 .i64 _ _ fr.length rfl rfl rfl rfl (by rw [hz2]; have := Hpos.out; omega) (by have := Hpos.out; simp only [maxLen]; omega) (Nat.le_refl _) ?_; intro w2 hO hg; rw [made_bool] at hO; have HO := Lib.hid hO; have HB2 := Lib.hid (grown_below hg); have n1 := later (grown_below hg) n0; clear hO hg)
 have HN0 := Lib.hid n0
 clear n0
 go_cut [] (fun wx => wx.ownsRow w1.heap.size 4 1 (.slice (some ⟨w1.heap.size, 0, none⟩) fr.length fr.length) fr.length ((if b4 = true then fr else noneB fr).map Value.bool) ∧ Below w1.heap.size w1 wx)
 case first =>
  cases b4 with
  | false =>
   have HFin : Hid (w2.ownsRow w1.heap.size 4 1 (.slice (some ⟨w1.heap.size, 0, none⟩) fr.length fr.length) fr.length ((if false = true then fr else noneB fr).map Value.bool)) := Lib.hid (by rw [if_neg (by decide)]; unfold noneB; rw [List.map_const']; exact HO.out)
   go_wp2_with fail
   go_meet
   exact ⟨HFin.out, HB2.out⟩
  | true =>
   go_wp2_with (refine wpList_copy_full (o := ⟨some 37, _, _, _, _, _⟩) (w0 := w1) w1.heap.size rfl _ _ 175 4 1 fr.length _ (fr.flatMap encB) rfl Tryz.underlying175 rfl w1.heap.size _ rfl rfl HO.out (HSrc.out.below (bthen HB0.out HB2.out)) HB2.out ?_; intro w3 hO3 hB3 _; have HO3 := Lib.hid hO3; have HB3 := Lib.hid hB3; clear hO3 hB3)
   go_meet
   have hO := HO3.out
   rw [encB_map] at hO
   exact ⟨by simpa using hO, HB3.out⟩
 case rest =>
  have HO3 := Lib.hid hcut.1
  have HB3 := Lib.hid hcut.2
  generalize wc = w3 at *
  have hol : (if b4 = true then fr else noneB fr).length = fr.length := by split; rfl; exact none_len fr
  have HOl := Lib.hid hol
  generalize (if b4 = true then fr else noneB fr) = o0 at *
  have HFv : Hid (Slc 1 encB w3 (fun j => j ≠ w1.heap.size) (.slice A4 fr.length c4) fr) := Lib.hid (((HF.out.mono (D' := fun k => k < w.heap.size) (fun k hk _ => hk)).below (bthen HB0.out HB3.out)).mono (fun k _ hk => by have := HNb.out; omega))
  clear hcut hol n1
  clear HO HSrc HF
  generalize hn : fr.length = n at *
  have Hn := Lib.hid hn
  clear hn
  have hn9 : n ≤ 9223372036854775806 := by have := Hpos.out; omega
  have hn1 : IntKind.i64.wrap ((n : Int) + 1) = (n : Int) + 1 := IntWalk.i64_in _ (by omega)
  have hnn : ((n + 1 : Nat) : Int) = (n : Int) + 1 := by omega
  go_wp2_with fail
  go_loopw [15, 42] (fun nv i wr => ∃ (q : Nat) (o now : List Bool), q ≤ n + 1 ∧ i = .int .i64 q ∧ wr.ownsRow w1.heap.size 4 1 (.slice (some ⟨w1.heap.size, 0, none⟩) n n) n (o.map Value.bool) ∧ o.length = n ∧ now.length = n ∧ Slc 1 encB wr (fun j => j ≠ w1.heap.size) nv now ∧ Below w1.heap.size w1 wr ∧ (b5 = false → loopN f (n + 1 - q) o now = res) ∧ (b5 = true → q = 0 ∧ joinB o (f now) = res)) (fun _ i _ => n + 1 - (intOf i).toNat)
  case atStart =>
   refine ⟨0, o0, fr, Nat.zero_le _, rfl, HO3.out, HOl.out, Hn.out, HFv.out, HB3.out, fun e => ?_, fun e => ⟨rfl, ?_⟩⟩
   ·rw [HRes.out, e, if_neg (by decide)]; rfl
   ·rw [HRes.out, e, if_pos rfl]
  case round =>
   obtain ⟨q, o, now, hq, rfl, hO, hol, hnl, hS, hB, hr1, hr2⟩ := hrel
   generalize wr = wo at *
   have HOr := Lib.hid hO
   have HOl2 := Lib.hid hol
   have HNl := Lib.hid hnl
   have HSr := Lib.hid hS
   have HBr := Lib.hid hB
   have HR1 := Lib.hid hr1
   have HR2 := Lib.hid hr2
   by_cases hlt : q < n + 1
   ·have hBw : Below w.heap.size w wo := bthen HB0.out hB
    have HCall := Lib.hid (HEnds.out wo hBw _ u15 now hS hnl)
    obtain ⟨A6, c6, hnv, -⟩ := id hS
    rw [hnl] at hnv
    have k1 := (HBlk.out wo hB).2
    have hlq : (q : Int) < (n : Int) + 1 := by omega
    have hlq2 : (q : Int) < ((n + 1 : Nat) : Int) := by omega
    subst hnv
    clear hO hol hnl hS hB hr1 hr2 hBw
    go_wp2_with fail
    refine HCall.out.mono ?_
    rintro e w5 ⟨v5, rfl, hb5, hO5⟩
    have hfl : (f now).length = n := HEl.out now HNl.out
    have HFl := Lib.hid hfl
    have HB5 := Lib.hid hb5
    have HO5 := Lib.hid hO5
    have HOu5 := Lib.hid (own_below HOr.out hb5)
    have HBw5 := Lib.hid (bthen HBr.out hb5)
    clear hb5 hO5 hfl k1 HCall
    go_wp2_with (at_make; refine wpList_make_full _ rfl _ _ 175 rfl w5.heap.size 4 i0 _ 1 Tryz.underlying175 hi hz0 hz1 .i64 .i64 _ _ n rfl rfl rfl rfl (by rw [hz2]; have := Hpos.out; omega) (by have := Hpos.out; simp only [maxLen]; omega) (Nat.le_refl _) ?_; intro w6 hO hg; rw [made_bool, ← part_zero (newB o (f now))] at hO; have HO6 := Lib.hid hO; have HB6 := Lib.hid (grown_below hg); clear hO hg)
    have HOu6 := Lib.hid (own_below HOu5.out HB6.out)
    have HBw6 := Lib.hid (bthen HBw5.out HB6.out)
    have hv6 := own_b_slc HO5.out
    obtain ⟨A7, c7, rfl, -, -, -, hD7, hR7⟩ := hv6
    have HRd7 := Lib.hid (fun (k : Nat) (hk : k < (f now).length) => rd1 (f := Value.bool) hR7 hk)
    have HD7 : Hid (∀ (bb oo : Nat), A7 = some ⟨bb, oo, none⟩ → wo.heap.size ≤ bb) := Lib.hid (fun bb oo e => (hD7 _ e (fun e2 => by have := HFl.out; rw [e2] at this; have := Hpos.out; simp at *; omega)).2.1)
    have HG : Hid (w1.heap.size < wo.heap.size) := Lib.hid (ownsRow_blk HOr.out w1.heap.size rfl).2
    have HMo : Hid (moreB o (f now) = (newB o (f now)).any id) := Lib.hid rfl
    have HLoop : Hid (∀ m, n + 1 - q = m + 1 → loopN f (n + 1 - q) o now = if moreB o (f now) = true then loopN f m (joinB o (f now)) (newB o (f now)) else joinB o (f now)) := Lib.hid (fun m e => by rw [e]; rfl)
    have hfl : (f now).length = n := HFl.out
    rw [hfl]
    generalize f now = nx at *
    clear hD7 hR7 HO5 HOu5 hfl
    go_loopw [18, 55] (fun mv i wr2 => ∃ k : Nat, k ≤ n ∧ i = .int .i64 k ∧ mv = .bool (((newB o nx).take k).any id) ∧ wr2.ownsRow w1.heap.size 4 1 (.slice (some ⟨w1.heap.size, 0, none⟩) n n) n ((mixB o nx k).map Value.bool) ∧ wr2.ownsRow w5.heap.size 4 1 (.slice (some ⟨w5.heap.size, 0, none⟩) n n) n ((partB (newB o nx) n k).map Value.bool) ∧ Apart (fun j => j = w1.heap.size ∨ j = w5.heap.size) w6 wr2) (fun _ i _ => n - (intOf i).toNat)
    case atStart => exact ⟨0, Nat.zero_le _, rfl, rfl, by rw [mix_zero]; exact HOu6.out, HO6.out, Apart.refl _ _⟩
    case round =>
     obtain ⟨k, hk, rfl, hmv, hOu, hOf, hA⟩ := hrel
     have HOur := Lib.hid hOu
     have HOfr := Lib.hid hOf
     have HAr := Lib.hid hA
     have HOlx : Hid (nx.length = o.length) := Lib.hid (HFl.out.trans HOl2.out.symm)
     have HNwl : Hid ((newB o nx).length = n) := Lib.hid ((new_len HOlx.out).trans HOl2.out)
     by_cases hlk : k < n
     ·have hko : k < o.length := by rw [HOl2.out]; exact hlk
      have hkx : k < nx.length := by rw [HFl.out]; exact hlk
      have hkn : k < (newB o nx).length := by rw [HNwl.out]; exact hlk
      obtain ⟨xb, xo, ex, y1⟩ := HRd7.out k hkx
      have h1 := HD7.out xb xo ex
      have h2 := blk_of_cell y1
      subst ex
      have NGf : Hid (¬ w1.heap.size = w5.heap.size) := Lib.hid (by have := HG.out; have := HB5.out.size; omega)
      have q0 := ap_cell hA (show xb ≠ w1.heap.size by have := HG.out; omega) (show xb ≠ w5.heap.size by omega) (later HB6.out y1)
      have q1 := own_b hOu (by rw [mix_len HOlx.out k (by omega), HOl2.out]) (mix_get HOlx.out hko)
      have q2 := own_b hOf (part_len HNwl.out (by omega)).symm (part_get HNwl.out hlk)
      have f2 : wr.frozen? ⟨w5.heap.size, k, none⟩ = false := own_free hOf
      have hnw : (newB o nx)[k] = (nx[k] && !o[k]) := by simp [newB]
      have HNext : Hid (((newB o nx).take (k + 1)).any id = (((newB o nx).take k).any id || (nx[k] && !o[k]))) := Lib.hid (by rw [any_take id _ k hkn, hnw]; rfl)
      have HSetF := part_set HNwl.out hlk
      have HSetO := mix_set HOlx.out hko
      rw [hnw] at HSetF
      have hi0 : (0 : Int) ≤ (k : Int) := by omega
      have hi1 : (k : Int) < (n : Int) := by omega
      obtain ⟨v1, hv1⟩ : ∃ v, v = (nx[k] && !o[k]) := ⟨_, rfl⟩
      obtain ⟨v2, hv2⟩ : ∃ v, v = (o[k] || nx[k]) := ⟨_, rfl⟩
      obtain ⟨m2, hm2⟩ : ∃ m, m = (((newB o nx).take k).any id || v1) := ⟨_, rfl⟩
      rw [← hv1] at HSetF HNext
      rw [← hv2] at HSetO
      have hF2 := own_set1 (k := k) (u := .bool v1) hOf hlk
      rw [← List.map_set, HSetF] at hF2
      have s1 : (wr.setCell ⟨w5.heap.size, k, none⟩ (.bool v1)).cell? ⟨w1.heap.size, k, none⟩ = some (.bool o[k]) := (World.cell?_setCell_other _ _ _ _ (by intro e; injection e with e; first | exact NGf.out e | exact NGf.out e.symm)).trans q1
      have s2 : (wr.setCell ⟨w5.heap.size, k, none⟩ (.bool v1)).cell? ⟨w5.heap.size, k, none⟩ = some (.bool v1) := World.cell?_setCell_same _ _ _ q2
      have hO1 : (wr.setCell ⟨w5.heap.size, k, none⟩ (.bool v1)).ownsRow w1.heap.size 4 1 (.slice (some ⟨w1.heap.size, 0, none⟩) n n) n ((mixB o nx k).map Value.bool) := ownsRow_move hOu (fun j hj => Below.heap_setCell _ _ _ _ (by intro e; injection hj with hj; exact NGf.out (hj.trans e)))
      have s3 : (wr.setCell ⟨w5.heap.size, k, none⟩ (.bool v1)).frozen? ⟨w1.heap.size, k, none⟩ = false := own_free hO1
      have hO2 := own_set1 (k := k) (u := .bool v2) hO1 hlk
      rw [← List.map_set, HSetO] at hO2
      have t1 : ((wr.setCell ⟨w5.heap.size, k, none⟩ (.bool v1)).setCell ⟨w1.heap.size, k, none⟩ (.bool v2)).cell? ⟨w5.heap.size, k, none⟩ = some (.bool v1) := (World.cell?_setCell_other _ _ _ _ (by intro e; injection e with e; first | exact NGf.out e | exact NGf.out e.symm)).trans s2
      have hFf : ((wr.setCell ⟨w5.heap.size, k, none⟩ (.bool v1)).setCell ⟨w1.heap.size, k, none⟩ (.bool v2)).ownsRow w5.heap.size 4 1 (.slice (some ⟨w5.heap.size, 0, none⟩) n n) n ((partB (newB o nx) n (k + 1)).map Value.bool) := ownsRow_move hF2 (fun j hj => Below.heap_setCell _ _ _ _ (by intro e; injection hj with hj; exact NGf.out (e.symm.trans hj.symm)))
      have HAf := Lib.hid ((hA.setC ⟨w5.heap.size, k, none⟩ (.inl (.inr rfl)) (.bool v1)).setC ⟨w1.heap.size, k, none⟩ (.inl (.inl rfl)) (.bool v2))
      have HO2 := Lib.hid hO2
      have HFf := Lib.hid hFf
      have HM2 : Hid (Value.bool m2 = .bool (((newB o nx).take (k + 1)).any id)) := Lib.hid (by rw [hm2, HNext.out])
      have HV1 := Lib.hid hv1
      have HV2 := Lib.hid hv2
      have HM := Lib.hid hm2
      subst hmv
      generalize nx[k] = xk at *
      generalize o[k] = ok at *
      generalize ((newB o nx).take k).any id = mo at *
      clear hv1 hv2 hm2 hF2 hO1 hO2 hFf HSetF HSetO hOu hOf hA hko hkx hkn hnw h1 h2 y1
      cases xk with
      | false =>
       cases ok with
       | false =>
        cases mo with
        | false =>
         have x1 : v1 = false := by rw [HV1.out]; rfl
         have x2 : v2 = false := by rw [HV2.out]; rfl
         have x3 : m2 = false := by rw [HM.out, x1]; rfl
         subst x1; subst x2; subst x3
         clear HV1 HV2 HM
         go_wp2_with fail
         go_roundw
         case rel => exact ⟨k + 1, by omega, by go_num, HM2.out, HO2.out, HFf.out, HAf.out⟩
         case measure => simp [intOf] <;> omega
        | true =>
         have x1 : v1 = false := by rw [HV1.out]; rfl
         have x2 : v2 = false := by rw [HV2.out]; rfl
         have x3 : m2 = true := by rw [HM.out, x1]; rfl
         subst x1; subst x2; subst x3
         clear HV1 HV2 HM
         go_wp2_with fail
         go_roundw
         case rel => exact ⟨k + 1, by omega, by go_num, HM2.out, HO2.out, HFf.out, HAf.out⟩
         case measure => simp [intOf] <;> omega
       | true =>
        cases mo with
        | false =>
         have x1 : v1 = false := by rw [HV1.out]; rfl
         have x2 : v2 = true := by rw [HV2.out]; rfl
         have x3 : m2 = false := by rw [HM.out, x1]; rfl
         subst x1; subst x2; subst x3
         clear HV1 HV2 HM
         go_wp2_with fail
         go_roundw
         case rel => exact ⟨k + 1, by omega, by go_num, HM2.out, HO2.out, HFf.out, HAf.out⟩
         case measure => simp [intOf] <;> omega
        | true =>
         have x1 : v1 = false := by rw [HV1.out]; rfl
         have x2 : v2 = true := by rw [HV2.out]; rfl
         have x3 : m2 = true := by rw [HM.out, x1]; rfl
         subst x1; subst x2; subst x3
         clear HV1 HV2 HM
         go_wp2_with fail
         go_roundw
         case rel => exact ⟨k + 1, by omega, by go_num, HM2.out, HO2.out, HFf.out, HAf.out⟩
         case measure => simp [intOf] <;> omega
      | true =>
       cases ok with
       | false =>
        cases mo with
        | false =>
         have x1 : v1 = true := by rw [HV1.out]; rfl
         have x2 : v2 = true := by rw [HV2.out]; rfl
         have x3 : m2 = true := by rw [HM.out, x1]; rfl
         subst x1; subst x2; subst x3
         clear HV1 HV2 HM
         go_wp2_with fail
         go_roundw
         case rel => exact ⟨k + 1, by omega, by go_num, HM2.out, HO2.out, HFf.out, HAf.out⟩
         case measure => simp [intOf] <;> omega
        | true =>
         have x1 : v1 = true := by rw [HV1.out]; rfl
         have x2 : v2 = true := by rw [HV2.out]; rfl
         have x3 : m2 = true := by rw [HM.out, x1]; rfl
         subst x1; subst x2; subst x3
         clear HV1 HV2 HM
         go_wp2_with fail
         go_roundw
         case rel => exact ⟨k + 1, by omega, by go_num, HM2.out, HO2.out, HFf.out, HAf.out⟩
         case measure => simp [intOf] <;> omega
       | true =>
        cases mo with
        | false =>
         have x1 : v1 = false := by rw [HV1.out]; rfl
         have x2 : v2 = true := by rw [HV2.out]; rfl
         have x3 : m2 = false := by rw [HM.out, x1]; rfl
         subst x1; subst x2; subst x3
         clear HV1 HV2 HM
         go_wp2_with fail
         go_roundw
         case rel => exact ⟨k + 1, by omega, by go_num, HM2.out, HO2.out, HFf.out, HAf.out⟩
         case measure => simp [intOf] <;> omega
        | true =>
         have x1 : v1 = false := by rw [HV1.out]; rfl
         have x2 : v2 = true := by rw [HV2.out]; rfl
         have x3 : m2 = true := by rw [HM.out, x1]; rfl
         subst x1; subst x2; subst x3
         clear HV1 HV2 HM
         go_wp2_with fail
         go_roundw
         case rel => exact ⟨k + 1, by omega, by go_num, HM2.out, HO2.out, HFf.out, HAf.out⟩
         case measure => simp [intOf] <;> omega
     ·have hkn : k = n := by omega
      have hmall : mixB o nx k = joinB o nx := by rw [hkn, ← HOl2.out]; exact mix_all HOlx.out
      have hpall : partB (newB o nx) n k = newB o nx := by rw [hkn]; exact part_all HNwl.out
      have hmo : ((newB o nx).take k).any id = moreB o nx := by rw [HMo.out, List.take_of_length_le (by rw [HNwl.out]; omega)]
      rw [hmall] at hOu
      rw [hpall] at hOf
      rw [hmo] at hmv
      have hBn : Below w1.heap.size w1 wr := ap_below HBw6.out (hA.mono (fun j hj e => by have := HG.out; have := HB5.out.size; omega))
      have q0 := (HBlk.out wr hBn).1
      have HBn := Lib.hid hBn
      have HBf := Lib.hid (bthen HB0.out hBn)
      have HOn := Lib.hid hOu
      have HFn := Lib.hid hOf
      have HJl : Hid ((joinB o nx).length = n) := Lib.hid ((join_len HOlx.out).trans HOl2.out)
      subst hmv
      clear hOu hOf hA hmall hpall hmo hBn
      have HLp := Lib.hid (HLoop.out (n - q) (by omega))
      cases b5 with
      | true =>
       have hres : res = joinB o nx := ((HR2.out rfl).2).symm
       have HFin : Hid (wr.ownsRow w.heap.size 4 1 (.slice (some ⟨w1.heap.size, 0, none⟩) n n) res.length (res.map Value.bool)) := Lib.hid (by rw [hres, HJl.out]; exact own_shift HOn.out HB0.out.size)
       generalize moreB o nx = mo at *
       clear hres
       go_wp2_with fail
       go_ret
       exact ⟨_, rfl, HBf.out, HFin.out⟩
      | false =>
       cases hm : moreB o nx with
       | false =>
        have hres : res = joinB o nx := by rw [← HR1.out rfl, HLp.out, hm, if_neg (by decide)]
        have HFin : Hid (wr.ownsRow w.heap.size 4 1 (.slice (some ⟨w1.heap.size, 0, none⟩) n n) res.length (res.map Value.bool)) := Lib.hid (by rw [hres, HJl.out]; exact own_shift HOn.out HB0.out.size)
        clear hres hm
        go_wp2_with fail
        go_ret
        exact ⟨_, rfl, HBf.out, HFin.out⟩
       | true =>
        have hnx : loopN f (n + 1 - (q + 1)) (joinB o nx) (newB o nx) = res := by
         rw [← HR1.out rfl, HLp.out, hm, if_pos rfl]
         congr 1
         omega
        have hsl : Slc 1 encB wr (fun j => j ≠ w1.heap.size) (.slice (some ⟨w5.heap.size, 0, none⟩) n n) (newB o nx) := (own_b_slc (by rw [HNwl.out]; exact HFn.out)).mono (fun j _ hj => by have := HG.out; have := HB5.out.size; omega)
        have HNx := Lib.hid hnx
        have HSl := Lib.hid hsl
        clear hm hnx hsl
        go_wp2_with fail
        go_roundw
        case rel => exact ⟨q + 1, joinB o nx, newB o nx, by omega, by go_num, HOn.out, HJl.out, HNwl.out, HSl.out, HBn.out, fun _ => HNx.out, fun e => by cases e⟩
        case measure => simp [intOf] <;> omega
   ·have hqn : q = n + 1 := by omega
    have hb5 : b5 = false := by
     cases b5 with
     | false => rfl
     | true => have := (hr2 rfl).1; omega
    have hres : res = o := by rw [← hr1 hb5, hqn, Nat.sub_self]; rfl
    have HFin : Hid (wo.ownsRow w.heap.size 4 1 (.slice (some ⟨w1.heap.size, 0, none⟩) n n) res.length (res.map Value.bool)) := Lib.hid (by rw [hres, HOl2.out]; exact own_shift HOr.out HB0.out.size)
    have HBf := Lib.hid (bthen HB0.out hB)
    have hlq : ¬ ((q : Int) < (n : Int) + 1) := by omega
    have hlq2 : decide ((q : Int) < (n : Int) + 1) = false := decide_eq_false hlq
    clear hO hol hnl hS hB hr1 hr2 hres hb5
    go_wp2_with fail
    go_ret
    exact ⟨_, rfl, HBf.out, HFin.out⟩
end Go.Proofs.YtlhmdgaohonpbaaGreatDoor

namespace Go.Proofs.YtlhmdgaohonpbaaGreatDoor
open Go.RowKit Go.Proofs.YtlhmdgaohonpbaaGreatDoor.MapRaw Go.ChangeMaps
theorem k_ends {pb : Nat} {lv : Value} {top : Int} {l : List Nc} {i : Nat} {nd : Nd} (h : TreeN (l.map Nc.key) i nd) : DEnds pb lv top l i nd := by
 induction h with
 | set h => exact k_ends_set h
 | none h => exact k_ends_none h
 | cat h _ _ i1 i2 => exact k_ends_cat h i1 i2
 | alt h _ _ i1 i2 => exact k_ends_alt h i1 i2
 | @rep i a g x hg h _ i1 =>
  intro w D1 D2 rv fv rs fr hX hr hf hlen hl6
  rcases hg with rfl | rfl | rfl
  ·have := k_ends_again (kd := 3) (b4 := true) (b5 := false) rfl rfl rfl rfl rfl rfl h i1 w D1 D2 rv fv rs fr hX hr hf hlen hl6
   exact this
  ·have := k_ends_again (kd := 4) (b4 := false) (b5 := false) rfl rfl rfl rfl rfl rfl h i1 w D1 D2 rv fv rs fr hX hr hf hlen hl6
   exact this
  ·have := k_ends_again (kd := 5) (b4 := true) (b5 := true) rfl rfl rfl rfl rfl rfl h i1 w D1 D2 rv fv rs fr hX hr hf hlen hl6
   exact this
def matchN (nd : Nd) (s : ByteArray) : Bool := ((endsN nd (runesF s) (true :: List.replicate (runesF s).length false))[(runesF s).length]?).getD false
set_option maxRecDepth 100000 in
set_option maxHeartbeats 2000000 in
theorem k_match {w : World} {pb k : Nat} {lv : Value} {l : List Nc} {nd : Nd} (s : ByteArray) (hx : XAt pb lv k l w) (hT : TreeN (l.map Nc.key) k nd) (hs : s.size ≤ 1000000) :
  Calls Tryz.prog 103 #[.pointer (some ⟨pb, 3, none⟩), .string s] w fun e w' => e = .returned (.bool (matchN nd s)) ∧ Below w.heap.size w w' := by
 have c4 := hx.tc
 have HX := Lib.hid hx
 have HRun := Lib.hid fun (W : World) => k_runes s W hs
 have hrl : (runesF s).length ≤ 1000000 := Nat.le_trans (runes_len s s.size 0) hs
 have HM : Hid (matchN nd s = ((endsN nd (runesF s) (true :: List.replicate (runesF s).length false))[(runesF s).length]?).getD false) := Lib.hid rfl
 have HEl := Lib.hid (endsN_len nd (runesF s) (fr := true :: List.replicate (runesF s).length false) (by simp))
 generalize matchN nd s = res at *
 generalize hl : runesF s = rs at *
 have HT := Lib.hid (k_ends (pb := pb) (lv := lv) (top := (k : Int)) hT)
 have Hrl := Lib.hid hrl
 obtain ⟨i0, hi, hz0, hz1, hz2⟩ := info_parts info_bool
 clear hx hT hrl hl hs
 go_enter Tryz.func103, Tryz.ntmps103
 go_wp2_with fail
 refine (HRun.out w).mono ?_
 rintro e w1 ⟨v1, rfl, hs1, hb1⟩
 have HS1 := Lib.hid hs1
 have HB1 := Lib.hid hb1
 obtain ⟨A1, k1, rfl, -⟩ := hs1
 have c4' := later hb1 c4
 have hsum : IntKind.i64.wrap ((rs.length : Int) + 1) = (rs.length : Int) + 1 := IntWalk.i64_in _ (by have := Hrl.out; omega)
 clear hb1 c4
 obtain ⟨n, hn⟩ : ∃ n, n = rs.length := ⟨_, rfl⟩
 have Hn := Lib.hid hn
 rw [← hn] at hsum ⊢
 clear hn
 have hmk : ((n + 1 : Nat) : Int) = (n : Int) + 1 := by omega
 go_wp2_with (at_make; refine wpList_make_full _ rfl _ _ 175 rfl w1.heap.size 4 i0 _ 1 Tryz.underlying175 hi hz0 hz1 .i64 .i64 _ _ (n + 1) rfl rfl hmk.symm hmk.symm (by rw [hz2, Hn.out]; have := Hrl.out; omega) (by rw [Hn.out]; have := Hrl.out; simp only [maxLen]; omega) (Nat.le_refl _) ?_; intro w2 hO hg; rw [made_bool] at hO; have HO := Lib.hid hO; have HB2 := Lib.hid (grown_below hg); have c2 := later (grown_below hg) c4'; have y0 : w2.cell? ⟨w1.heap.size, 0, none⟩ = some (.bool false) := own_b hO (by simp) (by simp); have f0 : w2.frozen? ⟨w1.heap.size, 0, none⟩ = false := own_free hO; have c3 : (w2.setCell ⟨w1.heap.size, 0, none⟩ (.bool true)).cell? ⟨pb, 4, none⟩ = some (.int .i64 k) := (World.cell?_setCell_other _ _ _ _ (by intro e; injection e with e; have h1 := blk_of_cell c4'; omega)).trans c2; clear hO hg c4')
 have hO3 := own_set1 (k := 0) (u := .bool true) HO.out (by omega)
 rw [← List.map_set, show (List.replicate (n + 1) false).set 0 true = true :: List.replicate n false from rfl] at hO3
 have hb3 : Below w1.heap.size w1 (w2.setCell ⟨w1.heap.size, 0, none⟩ (.bool true)) := below_cell HB2.out (Nat.le_refl _) _ _
 have hbw := bthen HB1.out hb3
 have hfl : (true :: List.replicate n false).length = n + 1 := by simp
 have hO4 : (w2.setCell ⟨w1.heap.size, 0, none⟩ (.bool true)).ownsRow w1.heap.size 4 1 (.slice (some ⟨w1.heap.size, 0, none⟩) (n + 1) (n + 1)) (true :: List.replicate n false).length ((true :: List.replicate n false).map Value.bool) := by rw [hfl]; exact hO3
 have hcall := HT.out _ _ _ (.slice A1 n k1) (.slice (some ⟨w1.heap.size, 0, none⟩) (n + 1) (n + 1)) rs (true :: List.replicate n false) (HX.out.below hbw) (by rw [Hn.out]; exact HS1.out.below hb3) (own_b_slc hO4) (by rw [hfl, Hn.out]) Hrl.out
 have HCall := Lib.hid hcall
 have HBw := Lib.hid hbw
 clear hO3 hb3 hbw hfl hO4 hcall
 rw [← Hn.out] at HM HEl
 generalize endsN nd rs (true :: List.replicate n false) = er at *
 refine HCall.out.mono ?_
 rintro e w4 ⟨v4, rfl, hb4, hv4⟩
 obtain ⟨A4, k4, e4, -, -, -, -, hR4⟩ := own_b_slc hv4
 subst e4
 have hel : er.length = n + 1 := HEl.out
 have hne : n < er.length := by omega
 obtain ⟨b4, o4, e5, y4⟩ := rd1 (f := Value.bool) hR4 hne
 subst e5
 have hres : res = er[n] := by rw [HM.out, List.getElem?_eq_getElem hne]; rfl
 have HRes := Lib.hid hres
 have HB4 := Lib.hid (bthen HBw.out hb4)
 generalize er[n] = rb at *
 have hi1 : (n : Int) < (er.length : Int) := by omega
 have hi0 : (0 : Int) ≤ (n : Int) := by omega
 clear hb4 hv4 hR4 hel hres hne
 go_wp2_with fail
 go_ret
 exact ⟨ret_bool HRes.out.symm, HB4.out⟩
def rexB (p s : ByteArray) : Bool := match parseF p with | .ok q _ => matchF q s | .bad _ _ => false
theorem parse_same (p : ByteArray) : parseE p = rexE p := by
 unfold parseE rexE
 by_cases hp : 256 < p.size
 ·rw [if_pos hp]; unfold parseF; rw [if_pos hp]
 ·rw [if_neg hp]
  have h := doc_ag p (by omega)
  unfold allChs
  cases hq : parseF p with
  | ok q r => rw [hq] at h; exact h.1
  | bad a e => rw [hq] at h; exact h.1
theorem parse_tree {p : ByteArray} (h : parseE p = 0) : ∃ q r, parseF p = .ok q r ∧ Tr (docR (codes (allChs p))) q 64 := by
 have hp : ¬ 256 < p.size := fun e => by unfold parseE at h; rw [if_pos e] at h; cases h
 have hd := doc_ag p (by omega)
 unfold parseE at h
 rw [if_neg hp] at h
 unfold allChs at h ⊢
 cases hq : parseF p with
 | ok q r => rw [hq] at hd; exact ⟨q, r, rfl, hd.2⟩
 | bad a e => rw [hq] at hd; exact (hd.2 (hd.1.symm.trans h)).elim
theorem match_same {q : Part} {nd : Nd} (h : Sim 64 q nd) (s : ByteArray) : matchN nd s = matchF q s := by
 unfold matchN matchF
 rw [sim_ends h 64 (Nat.le_refl _) (runesF s) _ (by simp)]
set_option maxRecDepth 100000 in
set_option maxHeartbeats 1000000 in
theorem k_full (p s : ByteArray) (w : World) (hs : s.size ≤ 1000000) : Calls Tryz.prog 79 #[.string p, .string s] w fun e w' => e = .returned (.bool (rexB p s)) ∧ Below w.heap.size w w' := by
 have HCall := Lib.hid (k_parse p w)
 have HBad : Hid (parseE p ≠ 0 → rexB p s = false) := Lib.hid (fun h => by
  rw [parse_same] at h
  unfold rexE at h
  unfold rexB
  cases hq : parseF p with
  | ok q r => rw [hq] at h; exact (h rfl).elim
  | bad a e => rfl)
 have HOk : Hid (∀ (w1 : World) (pb : Nat) (lv : Value) (l : List Nc), parseE p = 0 → XAt pb lv (docR (codes (allChs p))).1 l w1 → l.map Nc.key = (docR (codes (allChs p))).2.L → Calls Tryz.prog 103 #[.pointer (some ⟨pb, 3, none⟩), .string s] w1 fun e w' => e = .returned (.bool (rexB p s)) ∧ Below w1.heap.size w1 w') := Lib.hid (fun w1 pb lv l h0 hx hl => by
  obtain ⟨q, r, hq, k, nd, h1, h2, h3⟩ := parse_tree h0
  rw [h1] at hx
  rw [← hl] at h2
  have hr : rexB p s = matchN nd s := by unfold rexB; rw [hq, match_same h3]
  rw [hr]
  exact k_match s hx h2 hs)
 generalize rexB p s = res at *
 go_enter Tryz.func79, Tryz.ntmps79
 go_wp2_with fail
 refine HCall.out.mono ?_
 rintro e w1 ⟨ptr, bad, rfl, hok, hB⟩
 have HB := Lib.hid hB
 clear hB HCall
 by_cases h0 : parseE p = 0
 ·obtain ⟨pb, lv, l, rfl, hx, hl⟩ := hok h0
  have HM := Lib.hid (HOk.out w1 pb lv l h0 hx hl)
  have e0 : (parseE p == 0) = true := by simp [h0]
  generalize parseE p = pe at *
  clear hok hx hl h0 HBad HOk
  go_wp2_with fail
  refine HM.out.mono ?_
  rintro e w2 ⟨rfl, hB2⟩
  have HB2 := Lib.hid (bthen HB.out hB2)
  clear hB2
  go_wp2_with fail
  go_ret
  exact ⟨rfl, HB2.out⟩
 ·have hr := HBad.out h0
  have e0 : (parseE p == 0) = false := by simp [h0]
  subst hr
  generalize parseE p = pe at *
  clear hok h0 HBad HOk
  go_wp2_with fail
  go_ret
  exact ⟨rfl, HB.out⟩
end Go.Proofs.YtlhmdgaohonpbaaGreatDoor
