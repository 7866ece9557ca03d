import Derived.Test.YtbjglcdoekbloaaGreatDoorGRwB
import Derived.Test.YtbjglcdoekbloaaGreatDoorGRvD
import Derived.Test.YtbjglcdoekbloaaGreatDoorGHdB
import Derived.Test.YtbjglcdoekbloaaGreatDoorGLaA
set_option linter.unusedSimpArgs false
set_option linter.unusedVariables false
set_option linter.unusedSectionVars false
/- head.right. -/
namespace Go.Proofs.YtbjglcdoekbloaaGreatDoor
open Go.RowKit Go.Proofs.YtbjglcdoekbloaaGreatDoor.MapRaw Go.ChangeMaps

theorem size_ser : (Tryz.prog.info? 66).map (·.size) = some 3 := by kernel_rfl
theorem lab_same2 {D D' : Nat → Prop} {v v' : Value} {l l' : List Lb} (w : World) (h : SlL w D v l) (h' : SlL w D' v' l') : ∀ W, Below w.heap.size w W → Calls Tryz.prog 76 #[v, v'] W fun e w' => e = .returned (.bool (decide (l = l'))) ∧ Below W.heap.size W w' := by
  obtain ⟨A, c, rfl, p1, p2, -, -, p5⟩ := h
  obtain ⟨A', c', rfl, q1, q2, -, -, q5⟩ := h'
  intro W hW
  exact labels_same A A' c c' l l' W (Rd.below p5 hW) (Rd.below q5 hW) (by omega) (by omega)
set_option maxRecDepth 100000 in
set_option maxHeartbeats 2000000 in
theorem head_right {D D' : Nat → Prop} (v : Value) (l : List Sr) (w : World) (hv : Slc 3 Sr.enc w D v l) (hl : SrOk w D' l) (hz : ∀ x ∈ l, SzL x.lab) (hT : Tabs w) (h2 : 2 ≤ w.heap.size) :
    Calls Tryz.prog 71 #[v] w fun e w' => e = .returned (.int .i64 (rightS (l.map Sr.key))) ∧ Below w.heap.size w w' := by
  have hdef : rightS (l.map Sr.key) = if 4096 < l.length then 3 else if rightS1 0 (l.map Sr.key) ≠ 0 then rightS1 0 (l.map Sr.key) else if twiceS (l.map Sr.key) = true then 52 else 0 := by unfold rightS; rw [List.length_map]
  obtain ⟨A, c, rfl, p1, p2, p3, p4, p5⟩ := hv
  have HR := Lib.hid p5
  have HL := Lib.hid hl
  have HZ := Lib.hid hz
  have HT := Lib.hid hT
  have Hp1 := Lib.hid p1
  have hm : l.length ≤ 9223372036854775807 := by simp only [maxLen] at p2; omega
  by_cases h4 : 4096 < l.length
  · rw [if_pos h4] at hdef
    rw [hdef]
    have h4' : (4096 : Int) < (l.length : Int) := by omega
    generalize l.length = n at *
    clear p1 p2 p3 p4 p5 hl hz hT hdef h4
    go_enter Tryz.func71, Tryz.ntmps71
    go_wp2
    go_ret
    exact ⟨rfl, Below.refl _ _⟩
  · rw [if_neg h4] at hdef
    generalize rightS (l.map Sr.key) = res at *
    have HDef := Lib.hid hdef
    have h4' : ¬ (4096 : Int) < (l.length : Int) := by omega
    obtain ⟨n, hn⟩ : ∃ n, n = l.length := ⟨_, rfl⟩
    have Hn := Lib.hid hn
    rw [← hn] at h4' hm ⊢
    clear p1 p2 p3 p4 p5 hl hz hT hdef hn h4
    go_enter Tryz.func71, Tryz.ntmps71
    go_wp2
    go_loopw [3, 16] (fun s i wr => ∃ k : Nat, k ≤ n ∧ i = .int .i64 k ∧ s = .int .u32 (prevK (l.map Sr.key) k) ∧ RsTo (l.map Sr.key) k ∧ Below w.heap.size w wr) (fun _ i _ => n - (intOf i).toNat)
    case atStart => exact ⟨0, Nat.zero_le _, rfl, rfl, RsTo.start _, Below.refl _ _⟩
    case round =>
      obtain ⟨k, hk, rfl, rfl, hE, hB⟩ := hrel
      have HBr := Lib.hid hB
      by_cases hlt : k < n
      · have hkl : k < l.length := by rw [← Hn.out]; exact hlt
        obtain ⟨b, off, rfl, z0, z1, z2⟩ := rdSr_at (Rd.below HR.out hB) hkl
        have hx := HL.out _ (List.getElem_mem hkl)
        have hzx := HZ.out _ (List.getElem_mem hkl)
        have hRd := rs_round hE hkl
        generalize l[k] = z at *
        obtain ⟨zr, zlv, zlab, zpv, zpts⟩ := z
        simp only at z0 z1 z2 hx hzx hRd
        obtain ⟨⟨A4, c4, rfl, a1, a2, -, -, a5⟩, ⟨A5, c5, rfl, b1, b2, -, -, b5⟩⟩ := hx
        have HBw : Hid (Below wr.heap.size wr (wr.alloc (.cells #[.int .u32 zr, .slice A4 zlab.length c4, .slice A5 zpts.length c5] 66))) := Lib.hid (balloc (Below.refl _ _) _)
        have hrl := fun (W : World) (hW : Below w.heap.size w W) => labels_right A4 c4 zlab W (Rd.below a5 hW) (by omega) hzx (HT.out.below hW h2) (Nat.le_trans h2 hW.size)
        have hrp := fun (W : World) (hW : Below w.heap.size w W) => points_right A5 c5 zpts W (Rd.below b5 hW) (by omega)
        have HRl := Lib.hid hrl
        have HRp := Lib.hid hrp
        have v0 : (wr.alloc (.cells #[.int .u32 zr, .slice A4 zlab.length c4, .slice A5 zpts.length c5] 66)).cell? ⟨wr.heap.size, 0, none⟩ = some (.int .u32 zr) := by simp
        have v2 : (wr.alloc (.cells #[.int .u32 zr, .slice A4 zlab.length c4, .slice A5 zpts.length c5] 66)).cell? ⟨wr.heap.size, 2, none⟩ = some (.slice A5 zpts.length c5) := by simp
        generalize zlab.length = n4 at *
        generalize zpts.length = n5 at *
        clear hrl hrp a1 a2 a5 b1 b2 b5 hE hzx hB
        rcases hRd with ⟨g1, g2⟩ | ⟨g1, g2, g3⟩ | ⟨g1, g2, g3, g4⟩ | ⟨g1, g2, g3, g4, g5⟩
        · have hd : decide (zr ≤ prevK (l.map Sr.key) k) = true := decide_eq_true g1
          have HRes : Hid (res = 1) := Lib.hid (by rw [HDef.out, g2, if_pos (by decide)])
          clear g1 g2
          generalize prevK (l.map Sr.key) k = pk at *
          go_wp2_with fail
          go_ret
          exact ⟨ret_int HRes.out.symm, bthen HBr.out HBw.out⟩
        · have hd : decide (zr ≤ prevK (l.map Sr.key) k) = false := decide_eq_false g1
          have HRes : Hid (res = rightF zlab) := Lib.hid (by rw [HDef.out, if_pos (by rw [g3]; exact g2), g3])
          have hq : (rightF zlab != 0) = true := by simpa using g2
          clear g1 g2 g3
          generalize prevK (l.map Sr.key) k = pk at *
          generalize rightF zlab = q at *
          go_wp2_with fail
          refine (HRl.out _ (bthen HBr.out HBw.out)).mono ?_
          rintro e w1 ⟨rfl, hb⟩
          have HB1 := Lib.hid (bthen (bthen HBr.out HBw.out) hb)
          clear hb
          go_wp2_with fail
          go_ret
          exact ⟨ret_int HRes.out.symm, HB1.out⟩
        · have hd : decide (zr ≤ prevK (l.map Sr.key) k) = false := decide_eq_false g1
          have HRes : Hid (res = 1) := Lib.hid (by rw [HDef.out, g4, if_pos (by decide)])
          rw [g2] at HRl
          rw [g3] at HRp
          clear g1 g2 g3 g4
          generalize prevK (l.map Sr.key) k = pk at *
          go_wp2_with fail
          refine (HRl.out _ (bthen HBr.out HBw.out)).mono ?_
          rintro e w1 ⟨rfl, hb⟩
          have HB1 := Lib.hid (bthen (bthen HBr.out HBw.out) hb)
          have v21 := later hb v2
          clear hb
          go_wp2_with fail
          refine (HRp.out _ HB1.out).mono ?_
          rintro e w2 ⟨rfl, hb⟩
          have HB2 := Lib.hid (bthen HB1.out hb)
          clear hb
          go_wp2_with fail
          go_ret
          exact ⟨ret_int HRes.out.symm, HB2.out⟩
        · have hd : decide (zr ≤ prevK (l.map Sr.key) k) = false := decide_eq_false g1
          have G4 := Lib.hid g4
          have G5 := Lib.hid g5
          rw [g2] at HRl
          rw [g3] at HRp
          clear g1 g2 g3 g4 g5
          generalize prevK (l.map Sr.key) k = pk at *
          go_wp2_with fail
          refine (HRl.out _ (bthen HBr.out HBw.out)).mono ?_
          rintro e w1 ⟨rfl, hb⟩
          have HB1 := Lib.hid (bthen (bthen HBr.out HBw.out) hb)
          have v01 := later hb v0
          have v21 := later hb v2
          clear hb
          go_wp2_with fail
          refine (HRp.out _ HB1.out).mono ?_
          rintro e w2 ⟨rfl, hb⟩
          have HB2 := Lib.hid (bthen HB1.out hb)
          have v02 := later hb v01
          clear hb v01 v21
          go_wp2_with fail
          go_roundw
          case rel => exact ⟨k + 1, by omega, by go_num, by rw [G4.out], G5.out, HB2.out⟩
          case measure => simp [intOf] <;> omega
      · have hS0 := rs_done hE (by rw [← Hn.out]; exact hlt)
        have hres : res = if twiceS (l.map Sr.key) = true then 52 else 0 := by rw [HDef.out, hS0, if_neg (by decide)]
        have HRes := Lib.hid hres
        clear hS0 hres hE hB HDef
        generalize prevK (l.map Sr.key) k = pk at *
        go_wp2_with fail
        go_loopw [39] (fun i w1 => ∃ k : Nat, k ≤ n ∧ i = .int .i64 k ∧ TwTo l k ∧ Below w.heap.size w w1) (fun i _ => n - (intOf i).toNat)
        case atStart => exact ⟨0, Nat.zero_le _, rfl, TwTo.start _, HBr.out⟩
        case round =>
          obtain ⟨k, hk, rfl, hE, hB⟩ := hrel
          have HBr := Lib.hid hB
          have HE := Lib.hid hE
          by_cases hlt : k < n
          · have hkl : k < l.length := by rw [← Hn.out]; exact hlt
            have Hkl := Lib.hid hkl
            obtain ⟨b, off, rfl, z0, z1, z2⟩ := rdSr_at (Rd.below HR.out hB) hkl
            have hx := HL.out _ (List.getElem_mem hkl)
            obtain ⟨hsl1, -⟩ := slc_pre (kl := .i64) (enc := Sr.enc) Tryz.underlying22 size_ser (some ⟨b, off, none⟩) n c k hk (by rw [Hn.out]; exact Hp1.out)
            have HX := Lib.hid hx.1
            obtain ⟨⟨A4, c4, e4, -⟩, ⟨A5, c5, e5, -⟩⟩ := hx
            rw [e4] at z1 HX
            rw [e5] at z2
            generalize hkr : l[k].ref = zr at *
            generalize hn4 : l[k].lab.length = n4 at *
            generalize hn5 : l[k].pts.length = n5 at *
            have HBw : Hid (Below wr.heap.size wr (wr.alloc (.cells #[.int .u32 zr, .slice A4 n4 c4, .slice A5 n5 c5] 66))) := Lib.hid (balloc (Below.refl _ _) _)
            have v1 : (wr.alloc (.cells #[.int .u32 zr, .slice A4 n4 c4, .slice A5 n5 c5] 66)).cell? ⟨wr.heap.size, 1, none⟩ = some (.slice A4 n4 c4) := by simp
            have V1 := Lib.hid v1
            clear hE hB e4 e5 hkr hn4 hn5 v1
            go_wp2_with fail
            generalize wr.alloc (.cells #[.int .u32 zr, .slice A4 n4 c4, .slice A5 n5 c5] 66) = Wk at *
            clear z0 z1 z2
            go_loopw [48] (fun i w1 => ∃ j : Nat, j ≤ k ∧ i = .int .i64 j ∧ TiTo l k j ∧ Below Wk.heap.size Wk w1) (fun i _ => k - (intOf i).toNat)
            case atStart => exact ⟨0, Nat.zero_le _, rfl, TiTo.start _ _, Below.refl _ _⟩
            case round =>
              obtain ⟨j, hj, rfl, hT, hB⟩ := hrel
              have v1 := later hB V1.out
              have HBB := Lib.hid (bthen (bthen HBr.out HBw.out) hB)
              by_cases hjt : j < k
              · have hjl : j < l.length := Nat.lt_trans hjt Hkl.out
                obtain ⟨b', off', eA, y0, y1, y2⟩ := rdSr_at (Rd.below HR.out HBB.out) hjl
                cases eA
                have hx' := HL.out _ (List.getElem_mem hjl)
                have hRd := hT.round Hkl.out hjt HE.out
                have hsame := lab_same2 w HX.out hx'.1
                obtain ⟨⟨A6, c6, e6, -⟩, ⟨A7, c7, e7, -⟩⟩ := hx'
                rw [e6] at y1 hsame
                rw [e7] at y2
                generalize l[j].lab.length = n6 at *
                generalize l[j].pts.length = n7 at *
                generalize l[j].ref = yr at *
                have HSame := Lib.hid hsame
                have HBv : Hid (Below wr.heap.size wr (wr.alloc (.cells #[.int .u32 yr, .slice A6 n6 c6, .slice A7 n7 c7] 66))) := Lib.hid (balloc (Below.refl _ _) _)
                have v2 := later HBv.out v1
                have HBw1 := Lib.hid hB
                clear hB hT e6 e7 hsame
                rcases hRd with ⟨g1, g2⟩ | ⟨g1, g2⟩
                · simp only [g1, decide_true] at HSame
                  rw [g2, if_pos rfl] at HRes
                  clear g1 g2
                  go_wp2_with fail
                  refine (HSame.out _ (bthen HBB.out HBv.out)).mono ?_
                  rintro e w3 ⟨rfl, hb⟩
                  have HB3 := Lib.hid (bthen (bthen HBB.out HBv.out) hb)
                  clear hb
                  go_wp2_with fail
                  go_ret
                  exact ⟨ret_int HRes.out.symm, HB3.out⟩
                · simp only [g1, decide_false] at HSame
                  have G2 := Lib.hid g2
                  clear g1 g2
                  go_wp2_with fail
                  refine (HSame.out _ (bthen HBB.out HBv.out)).mono ?_
                  rintro e w3 ⟨rfl, hb⟩
                  have HB3 := Lib.hid (bthen HBv.out hb)
                  clear hb
                  go_wp2_with fail
                  go_roundw
                  case rel => exact ⟨j + 1, by omega, by go_num, G2.out, bthen HBw1.out HB3.out⟩
                  case measure => simp [intOf] <;> omega
              · have HT2 := Lib.hid (hT.done Hkl.out hjt HE.out)
                clear hB hT
                go_wp2_with fail
                go_roundw
                case rel => exact ⟨k + 1, by omega, by go_num, HT2.out, HBB.out⟩
                case measure => simp [intOf] <;> omega
          · have hT0 := hE.done (by rw [← Hn.out]; exact hlt)
            rw [hT0, if_neg (by decide)] at HRes
            clear hE hB hT0
            go_wp2_with fail
            go_ret
            exact ⟨ret_int HRes.out.symm, HBr.out⟩
end Go.Proofs.YtbjglcdoekbloaaGreatDoor

/- head.Of. -/
namespace Go.Proofs.YtbjglcdoekbloaaGreatDoor
open Go.RowKit Go.Proofs.YtbjglcdoekbloaaGreatDoor.MapRaw Go.ChangeMaps

theorem of_all {L : List Ky} (hR : RightK L) (hu : ∀ k ∈ L, k.1 < 4294967296) : OfH (ofF L) L := by
  have h : ∀ k, k ≤ L.length → OfH (ofF (L.take k)) (L.take k) := by
    intro k
    induction k with
    | zero => intro _; exact OfH.start
    | succ k ih => intro hk; exact (of_step hR hu (by omega) (ih (by omega))).2
  have := h L.length (Nat.le_refl _)
  rwa [List.take_length] at this
def HOfPost (w : World) (K : List Ky) (e : Ending) (w' : World) : Prop :=
  (rightS K ≠ 0 ∧ e = .returned (.tuple #[.pointer none, .int .i64 (rightS K)]) ∧ Below w.heap.size w w') ∨ (rightS K = 0 ∧ ∃ o X, e = .returned (.tuple #[.pointer (some ⟨o.hp, 0, none⟩), .int .i64 0]) ∧ Mine w X o (ofF K) w')
/-- where the loop stands -/
structure OfTo (w : World) (hp : Nat) (K : List Ky) (k : Nat) (wr : World) : Prop where
  ex : ∃ o X, o.hp = hp ∧ Mine w X o (ofF (K.take k)) wr
  of : OfH (ofF (K.take k)) (K.take k)
theorem of_next {w wr wa wb : World} {X X2 : List Nat} {o o2 : HLoc} {H : Hd} {K : List Ky} {k : Nat} (hM : Mine w X o H wr) {W : World} (hW : Below wr.heap.size wr W) {H' : Hd} (hh : HeadAt wa X2 o2 H') (hm : MoreX W X X2) (ha : ApX o o2 W wa) (hb : Below wa.heap.size wa wb) {m' : List (Int × List Pt)} {es : Array MapEntry} {c : Nat} (hI : IsMap eU (evP wb X2) es c m') : Mine w X2 o2 ⟨H'.ix, m', H'.top⟩ (setBlock wb o2.pb (.map es c)) := by
  have h1 := in_pts (hh.inn.below hb) hI rfl
  have hpX := hh.inn.mem.2.2.2
  have hpbX := hh.inn.mem.2.1
  have hnew : ∀ k ∈ X2, w.heap.size ≤ k := fun k hk => (hm.new k hk).elim (hM.new k) (fun h => Nat.le_trans hM.below.size (Nat.le_trans hW.size h))
  refine ⟨⟨?_, h1⟩, hnew, setB_below ?_ (hnew _ hpbX)⟩
  · rw [setBlock_ne (fun e => hpX (by rw [e]; exact hpbX))]
    exact blk_below hh.hc hb
  · refine bthen (apart_below (bthen hM.below hW) (ha.apart) (fun k hk => hM.new k ?_)) hb
    exact hM.head.inn.bsub k hk
theorem own_update {wa wb : World} {X2 : List Nat} {o2 : HLoc} {H' : Hd} (hh : HeadAt wa X2 o2 H') (hb : Below wa.heap.size wa wb) {v' : Value} {l : List Pt} (hv : SlP wb (fun k => wa.heap.size ≤ k) v' l) (h65 : l.length ≤ 65536) (a : Int) :
    ∃ es c, (Instr.mapUpdate 88 (.map (some o2.pb)) (.int .u64 a) v').run Tryz.prog wb = .ok () (setBlock wb o2.pb (.map es c)) ∧ IsMap eU (evP wb X2) es c (mput H'.pts a l) := by
  obtain ⟨ep, cp, hop, hMp⟩ := (hh.inn.below hb).pts
  obtain ⟨es, c, hup, hM'⟩ := update_all keyU Tryz.underlying88 o2.pb hMp (a := a) trivial (fun _ _ => trivial) (x := l) (v := v') ⟨hv.mono (fun k _ hk hm => by have := hh.inn.ix.lt k hm; omega), h65⟩
  exact ⟨es, c, hup wb hop, hM'⟩
set_option maxRecDepth 100000 in
set_option maxHeartbeats 2000000 in
theorem head_of {D : Nat → Prop} (v : Value) (l : List Sr) (w : World) (hv : Slc 3 Sr.enc w D v l) (hl : SrOk w D l) (hz : ∀ x ∈ l, SzL x.lab) (hu : ∀ x ∈ l, U32 x.ref) (hT : Tabs w) (h2 : 2 ≤ w.heap.size) :
    Calls Tryz.prog 28 #[v] w (HOfPost w (l.map Sr.key)) := by
  have hr := head_right v l w hv hl hz hT h2
  have HRi := Lib.hid hr
  obtain ⟨A, c, rfl, p1, p2, p3, p4, p5⟩ := hv
  have HR := Lib.hid p5
  have HL := Lib.hid hl
  have HZ := Lib.hid hz
  have HU := Lib.hid hu
  have HT := Lib.hid hT
  have hn9 : l.length ≤ 9223372036854775807 := by simp only [maxLen] at p2; omega
  obtain ⟨K, hK⟩ : ∃ K, K = l.map Sr.key := ⟨_, rfl⟩
  rw [← hK] at HRi ⊢
  have HK := Lib.hid hK
  obtain ⟨n, hn⟩ : ∃ n, n = l.length := ⟨_, rfl⟩
  have Hn := Lib.hid hn
  rw [← hn] at HRi hn9 ⊢
  clear hr p1 p2 p3 p4 p5 hl hz hu hT hK hn
  by_cases h0 : rightS K = 0
  · rw [h0] at HRi
    have hRK := rightS_zero h0
    have HRK := Lib.hid hRK
    have H0z := Lib.hid h0
    have huk : ∀ k ∈ K, k.1 < 4294967296 := fun k hk => by
      rw [HK.out] at hk
      obtain ⟨x, hx, rfl⟩ := List.mem_map.1 hk
      exact (HU.out x hx).2
    have HUk := Lib.hid huk
    clear h0 hRK huk
    go_enter Tryz.func28, Tryz.ntmps28
    go_wp2_with fail
    refine HRi.out.mono ?_
    rintro e w1 ⟨rfl, hb⟩
    have HB1 := Lib.hid hb
    have hnew := head_new w1
    unfold HNewPost at hnew
    have HNew := Lib.hid hnew
    clear hb hnew
    go_wp2_with fail
    refine HNew.out.mono ?_
    rintro e w2 ⟨o0, X0, rfl, hh0, hx0, hb0⟩
    have HS0 : Hid (OfTo w o0.hp K 0 w2) := Lib.hid ⟨⟨o0, X0, rfl, ⟨hh0, fun k hk => Nat.le_trans HB1.out.size (hx0 k hk), bthen HB1.out hb0⟩⟩, OfH.start⟩
    generalize o0.hp = hp at *
    clear hh0 hx0 hb0
    go_wp2_with fail
    go_loopw [17] (fun i wr => ∃ k : Nat, k ≤ n ∧ i = .int .i64 k ∧ OfTo w hp K k wr) (fun i _ => n - (intOf i).toNat)
    case atStart => exact ⟨0, Nat.zero_le _, rfl, HS0.out⟩
    case round =>
      obtain ⟨k, hk, rfl, hE⟩ := hrel
      obtain ⟨⟨o, X, ho, hM⟩, hO⟩ := hE
      subst ho
      by_cases hlt : k < n
      · have hkl : k < l.length := by rw [← Hn.out]; exact hlt
        have hkK : k < K.length := by rw [HK.out, List.length_map]; exact hkl
        obtain ⟨ha0, hO2⟩ := of_step HRK.out HUk.out hkK hO
        have hof := of_take K k hkK
        have hok := HRK.out.ok _ (List.getElem_mem hkK)
        have hKk : K[k] = l[k].key := by simp only [HK.out, List.getElem_map]
        rw [hKk] at ha0 hof hok
        obtain ⟨b, off, rfl, z0, z1, z2⟩ := rdSr_at (Rd.below HR.out hM.below) hkl
        have hx := HL.out _ (List.getElem_mem hkl)
        have hzx := HZ.out _ (List.getElem_mem hkl)
        have hux := HU.out _ (List.getElem_mem hkl)
        generalize l[k] = z at *
        obtain ⟨zr, zlv, zlab, zpv, zpts⟩ := z
        simp only [Sr.key] at z0 z1 z2 hx hzx hux ha0 hof hok
        have hdl : SlL wr (fun k => k ∉ X) zlv zlab := Slc.mono (Slc.below (Slc.mono (D' := fun k => k < w.heap.size) hx.1 (fun k hk _ => hk)) hM.below) (fun k _ hk hm => by have := hM.new k hm; omega)
        have hdp : SlP wr (fun k => k ∉ X) zpv zpts := Slc.mono (Slc.below (Slc.mono (D' := fun k => k < w.heap.size) hx.2 (fun k hk _ => hk)) hM.below) (fun k _ hk hm => by have := hM.new k hm; omega)
        obtain ⟨⟨A4, c4, rfl, -⟩, ⟨A5, c5, rfl, -⟩⟩ := hx
        have hwr := hux.wrap
        have HBw : Hid (Below wr.heap.size wr (wr.alloc (.cells #[.int .u32 zr, .slice A4 zlab.length c4, .slice A5 zpts.length c5] 66))) := Lib.hid (balloc (Below.refl _ _) _)
        have v0 : (wr.alloc (.cells #[.int .u32 zr, .slice A4 zlab.length c4, .slice A5 zpts.length c5] 66)).cell? ⟨wr.heap.size, 0, none⟩ = some (.int .u32 zr) := by simp
        have v1 : (wr.alloc (.cells #[.int .u32 zr, .slice A4 zlab.length c4, .slice A5 zpts.length c5] 66)).cell? ⟨wr.heap.size, 1, none⟩ = some (.slice A4 zlab.length c4) := by simp
        have v2 : (wr.alloc (.cells #[.int .u32 zr, .slice A4 zlab.length c4, .slice A5 zpts.length c5] 66)).cell? ⟨wr.heap.size, 2, none⟩ = some (.slice A5 zpts.length c5) := by simp
        have hhW := hM.head.below HBw.out
        have hsW : ∀ k ∈ X, k < wr.heap.size := fun k hk => hM.head.inn.ix.lt k hk
        have e0 := blk_cell hhW.hc 0
        simp at e0
        have hadd := inner_add zr _ zlab _ (hhW.inn.below (bdrew (Below.refl _ _))) (show o.hp < _ from (Array.getElem?_eq_some_iff.1 hhW.hc).1) ((hdl.below HBw.out).below (bdrew (Below.refl _ _))) hzx (HT.out.below (bthen hM.below (bdrew HBw.out)) h2) (Nat.le_trans h2 (bthen hM.below (bdrew HBw.out)).size) ha0
        unfold InAddPost at hadd
        have HAdd := Lib.hid hadd
        have HM := Lib.hid hM
        have HO2 := Lib.hid hO2
        have HOf := Lib.hid hof
        have HhW := Lib.hid hhW
        have HsW := Lib.hid hsW
        have HDp := Lib.hid hdp
        have h65 := (rightP_rising hok.2.2).2
        have Hkk := Lib.hid hok
        clear hM hO hO2 hof hdl hdp hadd ha0 hok hKk hzx hhW hsW
        go_upto_region 8 with fail
        generalize wr.alloc (.cells #[.int .u32 zr, .slice A4 zlab.length c4, .slice A5 zpts.length c5] 66) = W at *
        have y0 : W.drew.cell? ⟨o.hp, 0, none⟩ = some (.pointer (some ⟨o.ib, 0, none⟩)) := e0
        have y1 : W.drew.cell? ⟨wr.heap.size, 0, none⟩ = some (.int .u32 zr) := v0
        have y2 : W.drew.cell? ⟨wr.heap.size, 1, none⟩ = some (.slice A4 zlab.length c4) := v1
        have y3 : W.drew.cell? ⟨wr.heap.size, 2, none⟩ = some (.slice A5 zpts.length c5) := v2
        have N0 : Hid (wr.heap.size ∉ X) := Lib.hid fun hm => by have := HsW.out _ hm; omega
        clear e0 v0 v1 v2 z0 z1 z2
        go_region_held3 (fun w' => w'.cell? ⟨o.hp, 0, none⟩ = some (.pointer (some ⟨o.ib, 0, none⟩)) ∧ w'.cell? ⟨wr.heap.size, 0, none⟩ = some (.int .u32 zr) ∧ w'.cell? ⟨wr.heap.size, 1, none⟩ = some (.slice A4 zlab.length c4)) (first | exact ⟨y0, y1, y2⟩ | exact ⟨HRest.out.cell HhW.out.inn.bsub HhW.out.inn.mem.2.2.2 y0, HRest.out.cell HhW.out.inn.bsub N0.out y1, HRest.out.cell HhW.out.inn.bsub N0.out y2⟩)
          (first | (go_at_call 72; refine HAdd.out.mono ?_; rintro e w' ⟨rfl, hrest⟩; have HRest : Hid (TurnRest W.drew X o _ w') := Lib.hid hrest; clear hrest))
        obtain ⟨o2, X2, g1, g2, g3, g4⟩ := TurnRest.head (HhW.out.below (bdrew (Below.refl _ _))) HRest.out
        have q0 : w'.drew.cell? ⟨o.hp, 0, none⟩ = some (.pointer (some ⟨o2.ib, 0, none⟩)) := by
          rw [← g2]; have := blk_cell g1.hc 0; simpa using this
        have q1 : w'.drew.cell? ⟨o2.ib, 1, none⟩ = some (.map (some o2.pb)) := by have := blk_cell g1.inn.ic 1; simpa using this
        have q2 : w'.drew.cell? ⟨wr.heap.size, 0, none⟩ = some (.int .u32 zr) := HRest.out.cell HhW.out.inn.bsub N0.out y1
        have q3 : w'.drew.cell? ⟨wr.heap.size, 2, none⟩ = some (.slice A5 zpts.length c5) := HRest.out.cell HhW.out.inn.bsub N0.out y3
        have hdp2 : SlP w' (fun k => k ∉ X2) (.slice A5 zpts.length c5) zpts := Slc.turn ((HDp.out.below HBw.out).below (bdrew (Below.refl _ _))) (g4.apart.mono (fun k _ hk => HhW.out.inn.bsub k hk)) g3
        have how := fun (U : World) (hU : Below w'.heap.size w' U) => head_owned (.slice A5 zpts.length c5) zpts U (hdp2.below hU) (by omega)
        unfold OwnedPost at how
        have HOw := Lib.hid how
        have HG1 := Lib.hid g1
        have HG2 := Lib.hid g2
        have HG3 := Lib.hid g3
        have HG4 := Lib.hid g4
        have M0 : Hid (o.hp ≠ o2.pb) := Lib.hid (fun e => g1.inn.mem.2.2.2 (by rw [g2, e]; exact g1.inn.mem.2.1))
        have M1 : Hid (o2.ib ≠ o2.pb) := Lib.hid g1.inn.ne.1
        have M2 : Hid (wr.heap.size ≠ o2.pb) := Lib.hid (fun e => by
          have h1 := g3.new o2.pb g1.inn.mem.2.1
          rw [← e] at h1
          rcases h1 with h1 | h1
          · exact N0.out h1
          · have h2 : W.heap.size ≤ wr.heap.size := h1
            have h3 := World.block_lt_of_cell? W.drew _ y1
            have h4 : wr.heap.size < W.heap.size := h3
            omega)
        have H65 := Lib.hid h65
        clear y0 y1 y2 y3 g1 g2 g3 g4 hdp2 how HAdd HRest h65
        generalize w' = wa at *
        go_wp2_with fail
        go_region_held3 (fun w' => w'.cell? ⟨o.hp, 0, none⟩ = some (.pointer (some ⟨o2.ib, 0, none⟩)) ∧ w'.cell? ⟨o2.ib, 1, none⟩ = some (.map (some o2.pb)) ∧ w'.cell? ⟨wr.heap.size, 0, none⟩ = some (.int .u32 zr) ∧ w'.cell? ⟨wr.heap.size, 2, none⟩ = some (.slice A5 zpts.length c5)) (first | exact ⟨q0, q1, q2, q3⟩ | exact ⟨later hb' q0, later hb' q1, later hb' q2, later hb' q3⟩ | exact ⟨cell_setBlock M0.out (later hb' q0), cell_setBlock M1.out (later hb' q1), cell_setBlock M2.out (later hb' q2), cell_setBlock M2.out (later hb' q3)⟩)
          (first | (go_at_call 59; refine (HOw.out _ (bdrew (Below.refl _ _))).mono ?_; rintro e w' ⟨v', rfl, hv', hb'⟩; obtain ⟨es', c', hup, hM'⟩ := own_update (HG1.out.below (bdrew (Below.refl _ _))) hb' hv' H65.out zr; have HM' := Lib.hid hM'; clear hM' hv'))
        have HFin := Lib.hid (of_next (K := K) (k := k) HM.out (bthen HBw.out (bdrew (Below.refl _ _))) (HG1.out.below (bdrew (Below.refl _ _))) HG3.out (HG4.out.then (bdrew (Below.refl _ _))) hb' HM'.out)
        clear q0 q1 q2 q3 hup hb'
        go_wp2_with fail
        go_roundw
        case rel => exact ⟨k + 1, by omega, by go_num, ⟨⟨o2, X2, HG2.out, by rw [HOf.out]; exact HFin.out⟩, HO2.out⟩⟩
        case measure => simp [intOf] <;> omega
      · have hkk : K.take k = K := List.take_of_length_le (by rw [HK.out, List.length_map, ← Hn.out]; omega)
        rw [hkk] at hM
        have HF : Hid (HOfPost w K (.returned (.tuple #[.pointer (some ⟨o.hp, 0, none⟩), .int .i64 0])) wr) := Lib.hid (.inr ⟨H0z.out, o, X, rfl, hM⟩)
        clear hkk hM hO
        go_wp2_with fail
        go_ret2
        exact HF.out
  · have hq : (rightS K != 0) = true := by simpa using h0
    have H0 := Lib.hid h0
    clear h0
    generalize hqq : rightS K = q at *
    have HQ := Lib.hid hqq
    clear hqq
    go_enter Tryz.func28, Tryz.ntmps28
    go_wp2_with fail
    refine HRi.out.mono ?_
    rintro e w1 ⟨rfl, hb⟩
    have HB := Lib.hid hb
    clear hb
    go_wp2_with fail
    go_ret2
    refine .inl ⟨by rw [HQ.out]; exact H0.out, ?_, HB.out⟩
    rw [HQ.out]
    rfl
end Go.Proofs.YtbjglcdoekbloaaGreatDoor
