import Derived.Test.YtbjglcdoekbloaaGreatDoorGRwA
import Derived.Test.YtbjglcdoekbloaaGreatDoorGRvB
set_option linter.unusedSimpArgs false
set_option linter.unusedVariables false
set_option linter.unusedSectionVars false
/- the document's head: Right. -/
namespace Go.Proofs.YtbjglcdoekbloaaGreatDoor
open Go.RowKit Go.Proofs.YtbjglcdoekbloaaGreatDoor.MapRaw Go.ChangeMaps

theorem labAt_key {l : List Sr} {i : Nat} (h : i < l.length) : labAt (l.map Sr.key) i = l[i].lab := by
  unfold labAt; rw [List.getElem?_map, List.getElem?_eq_getElem h]; rfl
theorem rs_round {l : List Sr} {k : Nat} (h : RsTo (l.map Sr.key) k) (hk : k < l.length) :
    (l[k].ref ≤ prevK (l.map Sr.key) k ∧ rightS1 0 (l.map Sr.key) = 1) ∨ (¬ l[k].ref ≤ prevK (l.map Sr.key) k ∧ rightF l[k].lab ≠ 0 ∧ rightS1 0 (l.map Sr.key) = rightF l[k].lab) ∨ (¬ l[k].ref ≤ prevK (l.map Sr.key) k ∧ rightF l[k].lab = 0 ∧ rightP l[k].pts = false ∧ rightS1 0 (l.map Sr.key) = 1) ∨ (¬ l[k].ref ≤ prevK (l.map Sr.key) k ∧ rightF l[k].lab = 0 ∧ rightP l[k].pts = true ∧ prevK (l.map Sr.key) (k + 1) = l[k].ref ∧ RsTo (l.map Sr.key) (k + 1)) := by
  have h2 := h.round (k := k) (by rw [List.length_map]; exact hk)
  simp only [List.getElem_map] at h2
  exact h2
theorem rs_done {l : List Sr} {k : Nat} (h : RsTo (l.map Sr.key) k) (hk : ¬ k < l.length) : rightS1 0 (l.map Sr.key) = 0 := h.done (by rw [List.length_map]; exact hk)
/-- where the second loop stands -/
structure TwTo (l : List Sr) (k : Nat) : Prop where
  any : AnyTo (twiceAt (l.map Sr.key)) (List.range l.length) k
structure TiTo (l : List Sr) (k j : Nat) : Prop where
  any : AnyTo (fun j => decide (labAt (l.map Sr.key) k = labAt (l.map Sr.key) j)) (List.range k) j
theorem TwTo.start (l : List Sr) : TwTo l 0 := ⟨AnyTo.start _ _⟩
theorem TiTo.start (l : List Sr) (k : Nat) : TiTo l k 0 := ⟨AnyTo.start _ _⟩
theorem tw_eq (l : List Sr) : twiceS (l.map Sr.key) = (List.range l.length).any (twiceAt (l.map Sr.key)) := by unfold twiceS; rw [List.length_map]
theorem TiTo.round {l : List Sr} {k j : Nat} (h : TiTo l k j) (hk : k < l.length) (hj : j < k) (ht : TwTo l k) : (l[k].lab = l[j].lab ∧ twiceS (l.map Sr.key) = true) ∨ (¬ l[k].lab = l[j].lab ∧ TiTo l k (j + 1)) := by
  have h2 := h.any.round (k := j) (by simpa using hj)
  simp only [List.getElem_range, labAt_key hk, labAt_key (show j < l.length by omega)] at h2
  rcases h2 with ⟨g1, g2⟩ | ⟨g1, g2⟩
  · left
    refine ⟨by simpa using g1, ?_⟩
    rcases ht.any.round (k := k) (by simpa using hk) with ⟨g3, g4⟩ | ⟨g3, -⟩
    · rw [tw_eq]; exact g4
    · simp only [List.getElem_range] at g3
      unfold twiceAt at g3
      rw [labAt_key hk] at g3
      rw [g3] at g2; cases g2
  · right
    exact ⟨by simpa using g1, ⟨by rw [labAt_key hk]; exact g2⟩⟩
theorem TiTo.done {l : List Sr} {k j : Nat} (h : TiTo l k j) (hk : k < l.length) (hj : ¬ j < k) (ht : TwTo l k) : TwTo l (k + 1) := by
  have h2 := h.any.done (by simpa using hj)
  rcases ht.any.round (k := k) (by simpa using hk) with ⟨g3, g4⟩ | ⟨-, g4⟩
  · simp only [List.getElem_range] at g3
    unfold twiceAt at g3
    rw [h2] at g3; cases g3
  · exact ⟨g4⟩
theorem TwTo.done {l : List Sr} {k : Nat} (h : TwTo l k) (hk : ¬ k < l.length) : twiceS (l.map Sr.key) = false := by rw [tw_eq]; exact h.any.done (by simpa using hk)

set_option maxRecDepth 100000 in
set_option maxHeartbeats 2000000 in
theorem ref14_right {D D' : Nat → Prop} (v : Value) (l : List Sr) (w : World) (hv : Slc 3 Sr.enc w D v l) (hl : SrOk w D' l) (hz : ∀ x ∈ l, SzL x.lab) :
    Calls Tryz.prog 74 #[v] w fun e w' => e = .returned (.int .i64 (rightS (l.map Sr.key))) ∧ Below w.heap.size w w' := by
  have hdef : rightS (l.map Sr.key) = if 4096 < l.length then 3 else if rightS1 0 (l.map Sr.key) ≠ 0 then rightS1 0 (l.map Sr.key) else if twiceS (l.map Sr.key) = true then 52 else 0 := by unfold rightS; rw [List.length_map]
  obtain ⟨A, c, rfl, p1, p2, p3, p4, p5⟩ := hv
  have HR := Lib.hid p5
  have HL := Lib.hid hl
  have HZ := Lib.hid hz
  have hm : l.length ≤ 9223372036854775807 := by simp only [maxLen] at p2; omega
  by_cases h4 : 4096 < l.length
  · rw [if_pos h4] at hdef
    rw [hdef]
    have h4' : (4096 : Int) < (l.length : Int) := by omega
    generalize l.length = n at *
    clear p1 p2 p3 p4 p5 hl hz hdef h4
    go_enter Tryz.func74, Tryz.ntmps74
    go_wp2
    go_ret
    exact ⟨rfl, Below.refl _ _⟩
  · rw [if_neg h4] at hdef
    generalize rightS (l.map Sr.key) = res at *
    have HDef := Lib.hid hdef
    have h4' : ¬ (4096 : Int) < (l.length : Int) := by omega
    obtain ⟨n, hn⟩ : ∃ n, n = l.length := ⟨_, rfl⟩
    have Hn := Lib.hid hn
    rw [← hn] at h4' hm ⊢
    clear p1 p2 p3 p4 p5 hl hz hdef hn h4
    go_enter Tryz.func74, Tryz.ntmps74
    go_wp2
    go_loopw [3, 14] (fun s i wr => ∃ k : Nat, k ≤ n ∧ i = .int .i64 k ∧ s = .int .u32 (prevK (l.map Sr.key) k) ∧ RsTo (l.map Sr.key) k ∧ Below w.heap.size w wr) (fun _ i _ => n - (intOf i).toNat)
    case atStart => exact ⟨0, Nat.zero_le _, rfl, rfl, RsTo.start _, Below.refl _ _⟩
    case round =>
      obtain ⟨k, hk, rfl, rfl, hE, hB⟩ := hrel
      have HBr := Lib.hid hB
      by_cases hlt : k < n
      · have hkl : k < l.length := by rw [← Hn.out]; exact hlt
        obtain ⟨b, off, rfl, z0, z1, z2⟩ := rdSr_at (Rd.below HR.out hB) hkl
        have hx := HL.out _ (List.getElem_mem hkl)
        have hzx := HZ.out _ (List.getElem_mem hkl)
        have hRd := rs_round hE hkl
        generalize l[k] = z at *
        obtain ⟨zr, zlv, zlab, zpv, zpts⟩ := z
        simp only at z0 z1 z2 hx hzx hRd
        obtain ⟨⟨A4, c4, rfl, a1, a2, -, -, a5⟩, ⟨A5, c5, rfl, b1, b2, -, -, b5⟩⟩ := hx
        have HBw : Hid (Below wr.heap.size wr (wr.alloc (.cells #[.int .u32 zr, .slice A4 zlab.length c4, .slice A5 zpts.length c5] 66))) := Lib.hid (balloc (Below.refl _ _) _)
        have hrl := fun (W : World) (hW : Below w.heap.size w W) => ref05_right A4 c4 zlab W (Rd.below a5 hW) (by omega) hzx
        have hrp := fun (W : World) (hW : Below w.heap.size w W) => ref09_right A5 c5 zpts W (Rd.below b5 hW) (by omega)
        have HRl := Lib.hid hrl
        have HRp := Lib.hid hrp
        have v0 : (wr.alloc (.cells #[.int .u32 zr, .slice A4 zlab.length c4, .slice A5 zpts.length c5] 66)).cell? ⟨wr.heap.size, 0, none⟩ = some (.int .u32 zr) := by simp
        have v2 : (wr.alloc (.cells #[.int .u32 zr, .slice A4 zlab.length c4, .slice A5 zpts.length c5] 66)).cell? ⟨wr.heap.size, 2, none⟩ = some (.slice A5 zpts.length c5) := by simp
        generalize zlab.length = n4 at *
        generalize zpts.length = n5 at *
        clear hrl hrp a1 a2 a5 b1 b2 b5 hE hzx hB
        rcases hRd with ⟨g1, g2⟩ | ⟨g1, g2, g3⟩ | ⟨g1, g2, g3, g4⟩ | ⟨g1, g2, g3, g4, g5⟩
        · have hd : decide (zr ≤ prevK (l.map Sr.key) k) = true := decide_eq_true g1
          have HRes : Hid (res = 1) := Lib.hid (by rw [HDef.out, g2, if_pos (by decide)])
          clear g1 g2
          generalize prevK (l.map Sr.key) k = pk at *
          go_wp2_with fail
          go_ret
          exact ⟨ret_int HRes.out.symm, bthen HBr.out HBw.out⟩
        · have hd : decide (zr ≤ prevK (l.map Sr.key) k) = false := decide_eq_false g1
          have HRes : Hid (res = rightF zlab) := Lib.hid (by rw [HDef.out, if_pos (by rw [g3]; exact g2), g3])
          have hq : (rightF zlab != 0) = true := by simpa using g2
          clear g1 g2 g3
          generalize prevK (l.map Sr.key) k = pk at *
          generalize rightF zlab = q at *
          go_wp2_with fail
          refine (HRl.out _ (bthen HBr.out HBw.out)).mono ?_
          rintro e w1 ⟨rfl, hb⟩
          have HB1 := Lib.hid (bthen (bthen HBr.out HBw.out) hb)
          clear hb
          go_wp2_with fail
          go_ret
          exact ⟨ret_int HRes.out.symm, HB1.out⟩
        · have hd : decide (zr ≤ prevK (l.map Sr.key) k) = false := decide_eq_false g1
          have HRes : Hid (res = 1) := Lib.hid (by rw [HDef.out, g4, if_pos (by decide)])
          rw [g2] at HRl
          rw [g3] at HRp
          clear g1 g2 g3 g4
          generalize prevK (l.map Sr.key) k = pk at *
          go_wp2_with fail
          refine (HRl.out _ (bthen HBr.out HBw.out)).mono ?_
          rintro e w1 ⟨rfl, hb⟩
          have HB1 := Lib.hid (bthen (bthen HBr.out HBw.out) hb)
          have v21 := later hb v2
          clear hb
          go_wp2_with fail
          refine (HRp.out _ HB1.out).mono ?_
          rintro e w2 ⟨rfl, hb⟩
          have HB2 := Lib.hid (bthen HB1.out hb)
          clear hb
          go_wp2_with fail
          go_ret
          exact ⟨ret_int HRes.out.symm, HB2.out⟩
        · have hd : decide (zr ≤ prevK (l.map Sr.key) k) = false := decide_eq_false g1
          have G4 := Lib.hid g4
          have G5 := Lib.hid g5
          rw [g2] at HRl
          rw [g3] at HRp
          clear g1 g2 g3 g4 g5
          generalize prevK (l.map Sr.key) k = pk at *
          go_wp2_with fail
          refine (HRl.out _ (bthen HBr.out HBw.out)).mono ?_
          rintro e w1 ⟨rfl, hb⟩
          have HB1 := Lib.hid (bthen (bthen HBr.out HBw.out) hb)
          have v01 := later hb v0
          have v21 := later hb v2
          clear hb
          go_wp2_with fail
          refine (HRp.out _ HB1.out).mono ?_
          rintro e w2 ⟨rfl, hb⟩
          have HB2 := Lib.hid (bthen HB1.out hb)
          have v02 := later hb v01
          clear hb v01 v21
          go_wp2_with fail
          go_roundw
          case rel => exact ⟨k + 1, by omega, by go_num, by rw [G4.out], G5.out, HB2.out⟩
          case measure => simp [intOf] <;> omega
      · have hS0 := rs_done hE (by rw [← Hn.out]; exact hlt)
        have hres : res = if twiceS (l.map Sr.key) = true then 52 else 0 := by rw [HDef.out, hS0, if_neg (by decide)]
        have HRes := Lib.hid hres
        clear hS0 hres hE hB HDef
        generalize prevK (l.map Sr.key) k = pk at *
        go_wp2_with fail
        go_loopw [37] (fun i w1 => ∃ k : Nat, k ≤ n ∧ i = .int .i64 k ∧ TwTo l k ∧ Below w.heap.size w w1) (fun i _ => n - (intOf i).toNat)
        case atStart => exact ⟨0, Nat.zero_le _, rfl, TwTo.start _, HBr.out⟩
        case round =>
          obtain ⟨k, hk, rfl, hE, hB⟩ := hrel
          have HBr := Lib.hid hB
          have HE := Lib.hid hE
          by_cases hlt : k < n
          · have hkl : k < l.length := by rw [← Hn.out]; exact hlt
            have Hkl := Lib.hid hkl
            clear hE hB
            go_wp2_with fail
            go_loopw [41] (fun i w1 => ∃ j : Nat, j ≤ k ∧ i = .int .i64 j ∧ TiTo l k j ∧ Below w.heap.size w w1) (fun i _ => k - (intOf i).toNat)
            case atStart => exact ⟨0, Nat.zero_le _, rfl, TiTo.start _ _, HBr.out⟩
            case round =>
              obtain ⟨j, hj, rfl, hT, hB⟩ := hrel
              have HBr := Lib.hid hB
              by_cases hjt : j < k
              · have hjl : j < l.length := Nat.lt_trans hjt Hkl.out
                obtain ⟨b, off, rfl, z0, z1, z2⟩ := rdSr_at (Rd.below HR.out hB) Hkl.out
                obtain ⟨b', off', eA, y0, y1, y2⟩ := rdSr_at (Rd.below HR.out hB) hjl
                cases eA
                have hx := HL.out _ (List.getElem_mem Hkl.out)
                have hx' := HL.out _ (List.getElem_mem hjl)
                have hRd := hT.round Hkl.out hjt HE.out
                have hj0 : (0 : Int) ≤ (j : Int) := by omega
                have hj1 : (j : Int) < (n : Int) := by omega
                have hk0 : (0 : Int) ≤ (k : Int) := by omega
                have hk1 : (k : Int) < (n : Int) := by omega
                have hsame := lab_same w hx.1 hx'.1
                obtain ⟨⟨A4, c4, e4, -⟩, -⟩ := hx
                obtain ⟨⟨A5, c5, e5, -⟩, -⟩ := hx'
                rw [e4] at z1 hsame
                rw [e5] at y1 hsame
                generalize l[k].lab.length = n4 at *
                generalize l[j].lab.length = n5 at *
                clear z0 z2 y0 y2 hB hT e4 e5
                have f1 : wr.drew.cell? ⟨b, off + k * 3 + 1, none⟩ = some (.slice A4 n4 c4) := z1
                have f2 : wr.drew.cell? ⟨b, off + j * 3 + 1, none⟩ = some (.slice A5 n5 c5) := y1
                have HSame := Lib.hid hsame
                clear hsame
                rcases hRd with ⟨g1, g2⟩ | ⟨g1, g2⟩
                · simp only [g1, decide_true] at HSame
                  rw [g2, if_pos rfl] at HRes
                  clear g1 g2
                  go_wp2_with fail
                  go_region_held3 (fun w' => w'.cell? ⟨b, off + k * 3 + 1, none⟩ = some (.slice A4 n4 c4) ∧ w'.cell? ⟨b, off + j * 3 + 1, none⟩ = some (.slice A5 n5 c5)) (first | exact ⟨f1, f2⟩ | exact ⟨later hb' f1, later hb' f2⟩)
                    (first | (go_at_call 24; refine (HSame.out _ (bthen HBr.out (bdrew (Below.refl _ _)))).mono ?_; rintro e w' ⟨rfl, hb'⟩))
                  go_wp2_with fail
                  go_ret
                  exact ⟨ret_int HRes.out.symm, bthen HBr.out (bthen (bdrew (Below.refl _ _)) hb')⟩
                · simp only [g1, decide_false] at HSame
                  have G2 := Lib.hid g2
                  clear g1 g2
                  go_wp2_with fail
                  go_region_held3 (fun w' => w'.cell? ⟨b, off + k * 3 + 1, none⟩ = some (.slice A4 n4 c4) ∧ w'.cell? ⟨b, off + j * 3 + 1, none⟩ = some (.slice A5 n5 c5)) (first | exact ⟨f1, f2⟩ | exact ⟨later hb' f1, later hb' f2⟩)
                    (first | (go_at_call 24; refine (HSame.out _ (bthen HBr.out (bdrew (Below.refl _ _)))).mono ?_; rintro e w' ⟨rfl, hb'⟩))
                  go_wp2_with fail
                  go_roundw
                  case rel => exact ⟨j + 1, by omega, by go_num, G2.out, bthen HBr.out (bthen (bdrew (Below.refl _ _)) hb')⟩
                  case measure => simp [intOf] <;> omega
              · have HT := Lib.hid (hT.done Hkl.out hjt HE.out)
                clear hB hT
                go_wp2_with fail
                go_roundw
                case rel => exact ⟨k + 1, by omega, by go_num, HT.out, HBr.out⟩
                case measure => simp [intOf] <;> omega
          · have hT0 := hE.done (by rw [← Hn.out]; exact hlt)
            rw [hT0, if_neg (by decide)] at HRes
            clear hE hB hT0
            go_wp2_with fail
            go_ret
            exact ⟨ret_int HRes.out.symm, HBr.out⟩
end Go.Proofs.YtbjglcdoekbloaaGreatDoor
