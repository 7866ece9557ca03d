import Derived.Test.YtlhmdgaohonpbaaGreatDoorGDz
import Derived.Test.YtlhmdgaohonpbaaGreatDoorGIx
import Derived.Test.YtlhmdgaohonpbaaGreatDoorGLj
set_option linter.unusedSimpArgs false
set_option linter.unusedVariables false
set_option linter.unusedSectionVars false
/- the law PostingsAdds. -/
namespace Go.Proofs.YtlhmdgaohonpbaaGreatDoor
open Go.RowKit Go.Proofs.YtlhmdgaohonpbaaGreatDoor.MapRaw Go.ChangeMaps

theorem both_start {w0 w w1 : World} (hb0 : Below w0.heap.size w0 w) {e : Ending} (h : AddNewPost w e w1) : ∃ xb, e = .returned (.pointer (some ⟨xb, 0, none⟩)) ∧ Below w.heap.size w w1 ∧ Both w0 xb w1.heap.size ix0 (w1.alloc (.cells #[.slice none 0 0] 52)) := by
  obtain ⟨xb, ab, rb, hb, he, hix, ⟨n1, n2, n3, n4, n5, n6, n7, n8⟩, hb1⟩ := h
  have hs0 := hb0.size
  have hb2 : Below w1.heap.size w1 (w1.alloc (.cells #[.slice none 0 0] 52)) := balloc (Below.refl _ _) _
  have hm : MoreX w1 [ab, rb, hb] (w1.heap.size :: [ab, rb, hb]) := ⟨fun k hk => List.mem_cons_of_mem _ hk, fun k hk => (List.mem_cons.1 hk).elim (fun e => .inr (Nat.le_of_eq e.symm)) .inl⟩
  refine ⟨xb, he, hb1, w1.heap.size :: [ab, rb, hb], ab, rb, hb, [], .slice none 0 0, [], ⟨?_, ⟨blk_new w1 _, ⟨rfl, .inl ⟨rfl, rfl⟩⟩, (fun j hj => by cases hj), by simp, (fun x hx => by simp at hx)⟩, IxOk.start, ?_, (fun k hk => by simp at hk), ?_, ?_, by omega, bthen hb0 (bthen hb1 hb2)⟩, rfl⟩
  · exact hix.move hb2.size (fun k hk _ => hb2.block k hk) (fun k hk hX => hm.out hk hX) hm.old (fun k hk => by
      rcases List.mem_cons.1 hk with rfl | hk
      · simp
      · exact Nat.lt_of_lt_of_le (hix.lt k hk) hb2.size)
  · intro k hk hi
    rcases hk with rfl | hk
    · have := hix.lt _ (hix.sub _ hi); omega
    · cases hk
  · simp; exact ⟨by omega, n5, n6, n7⟩
  · intro k hk
    simp at hk
    rcases hk with rfl | rfl | rfl | rfl
    · have := hb1.size; omega
    · omega
    · omega
    · omega
/-- what the loop's test reads -/
def TestPost (w0 : World) (xb yb : Nat) (I : Ix) (w' : World) : Prop := ∃ N A c, N = I.all.length ∧ Both w0 xb yb I w' ∧ w'.cell? ⟨yb, 0, none⟩ = some (.slice A N c) ∧ (Calls Tryz.prog 25 #[.pointer (some ⟨xb, 0, none⟩)] w' fun e w2 => e = .returned (.int .i64 N) ∧ w' = w2)
theorem Both.test {w0 w : World} {xb yb : Nat} {I : Ix} (h : Both w0 xb yb I w) : TestPost w0 xb yb I w := by
  obtain ⟨X, ab, rb, hb, inner, v, l, h1, h2⟩ := id h
  obtain ⟨A, c, e, -⟩ := h1.y.slc
  have hl : l.length = I.all.length := by rw [← h2, List.length_map]
  refine ⟨_, A, c, rfl, h, ?_, ix_len w h1.ix⟩
  have := blk_cell h1.y.hc 0
  rw [e, hl] at this
  simpa using this
theorem add_len (I : Ix) (h : IxOk I) (o : Op10) : (opI I o).all.length ≤ I.all.length + 1 := by rw [op_all h]; exact opY_len _ _
theorem Both.ok {w0 w : World} {xb yb : Nat} {I : Ix} (h : Both w0 xb yb I w) : IxOk I := by
  obtain ⟨X, ab, rb, hb, inner, v, l, h1, h2⟩ := h
  exact h1.ok
def LabUni (w : World) (D : Nat → Prop) (om : Option (List Lb)) (e : Ending) (w' : World) : Prop := ∃ v, e = .returned (.tuple #[v, .bool om.isSome]) ∧ SlL w' D v (om.getD []) ∧ Below w.heap.size w w'
theorem LabPost.uni {w w' : World} {D : Nat → Prop} {l : List Sx} {r : Int} {e : Ending} (h : LabPost w l r e w') (hok : SxOk w D l) : LabUni w D (mget (l.map Sx.key) r) e w' := by
  rcases h with ⟨x, hx, hr, hm, rfl, hb⟩ | ⟨hm, rfl, hb⟩
  · rw [hm]; exact ⟨_, rfl, (hok x hx).below hb, hb⟩
  · rw [hm]; exact ⟨_, rfl, Slc.nil _ _ _ _, hb⟩
set_option maxRecDepth 100000 in
set_option maxHeartbeats 4000000 in
theorem law_adds {D D1 D2 : Nat → Prop} (v : Value) (l : List OpV) (ask : Int) (qv : Value) (q : List Lb) (w : World) (hv : Slc 3 OpV.enc w D v l) (ho : OpOk w D1 l) (hq : SlL w D2 qv q) (hzq : SzL q) (hT : Tabs w) (h2 : 2 ≤ w.heap.size) :
    Calls Tryz.prog 5 #[v, .int .u64 ask, qv] w fun e w' => e = .returned (.bool true) ∧ Below w.heap.size w w' := by
  have HLive := Lib.hid fun (W : World) (hW : Below w.heap.size w W) => law10_live W (hT.below hW h2) (Nat.le_trans h2 hW.size)
  have HMuch := Lib.hid fun (W : World) (hW : Below w.heap.size w W) => law_much v l W (hv.below hW) (fun o hoo => (ho o hoo).below hW)
  have HBig := Lib.hid fun (W : World) (hW : Below w.heap.size w W) => law_big qv q W (hq.below hW)
  have HQ := Lib.hid hq
  have HT := Lib.hid hT
  obtain ⟨A, c, rfl, p1, p2, -, -, p5⟩ := hv
  have HRd := Lib.hid p5
  obtain ⟨Aq, cq, rfl, -⟩ := hq
  have hm9 : l.length ≤ 9223372036854775807 := by simp only [maxLen] at p2; omega
  obtain ⟨m, hm⟩ : ∃ m, m = l.length := ⟨_, rfl⟩
  have Hm := Lib.hid hm
  rw [← hm] at HMuch hm9 ⊢
  generalize q.length = nq at *
  have HDoes : Hid (muchB l = false → ∀ (W : World) (xb yb : Nat) (I : Ix) (o : OpV), o ∈ l → Both w xb yb I W → I.all.length ≤ 100 → Calls Tryz.prog 24 #[.pointer (some ⟨xb, 0, none⟩), .pointer (some ⟨yb, 0, none⟩), .agg #[.bool o.cut, .int .u64 o.ref, o.lv]] W fun e w' => e = .returned (.bool true) ∧ TestPost w xb yb (opI I o.op) w') := Lib.hid (fun hmu W xb yb I o hoo hB hI => by
    refine (law_does o W hB (ho o hoo) ((much_small hmu).2 o hoo) (by omega) hT h2).mono ?_
    rintro e w' ⟨he, hB2⟩
    exact ⟨he, hB2.test⟩)
  have HOk := Lib.hid ho
  clear ho hm p1 p2 p5 hT
  cases hmu : muchB l with
  | true =>
    rw [hmu] at HMuch
    clear hmu
    go_enter Tryz.func5, Tryz.ntmps5
    go_wp2_with fail
    refine (HLive.out w (Below.refl _ _)).mono ?_
    rintro e w1 ⟨rfl, hb⟩
    have HB1 := Lib.hid hb
    clear hb
    go_wp2_with fail
    refine (HMuch.out w1 HB1.out).mono ?_
    rintro e w2 ⟨rfl, hb⟩
    have HB2 := Lib.hid (bthen HB1.out hb)
    clear hb
    go_wp2_with fail
    refine (HLive.out w2 HB2.out).mono ?_
    rintro e w3 ⟨rfl, hb⟩
    have HB3 := Lib.hid (bthen HB2.out hb)
    clear hb
    go_wp2_with fail
    go_ret
    exact ⟨rfl, HB3.out⟩
  | false =>
    rw [hmu] at HMuch
    have HDo := Lib.hid (HDoes.out hmu)
    have hm60 : m ≤ 60 := by rw [Hm.out]; exact (much_small hmu).1
    clear hmu HDoes
    cases hbq : bigB q with
    | true =>
      rw [hbq] at HBig
      clear hbq
      go_enter Tryz.func5, Tryz.ntmps5
      go_wp2_with fail
      refine (HLive.out w (Below.refl _ _)).mono ?_
      rintro e w1 ⟨rfl, hb⟩
      have HB1 := Lib.hid hb
      clear hb
      go_wp2_with fail
      refine (HMuch.out w1 HB1.out).mono ?_
      rintro e w2 ⟨rfl, hb⟩
      have HB2 := Lib.hid (bthen HB1.out hb)
      clear hb
      go_wp2_with fail
      refine (HBig.out w2 HB2.out).mono ?_
      rintro e w3 ⟨rfl, hb⟩
      have HB3 := Lib.hid (bthen HB2.out hb)
      clear hb
      go_wp2_with fail
      refine (HLive.out w3 HB3.out).mono ?_
      rintro e w4 ⟨rfl, hb⟩
      have HB4 := Lib.hid (bthen HB3.out hb)
      clear hb
      go_wp2_with fail
      go_ret
      exact ⟨rfl, HB4.out⟩
    | false =>
      rw [hbq] at HBig
      clear hbq
      go_enter Tryz.func5, Tryz.ntmps5
      go_wp2_with fail
      refine (HLive.out w (Below.refl _ _)).mono ?_
      rintro e w1 ⟨rfl, hb⟩
      have HB1 := Lib.hid hb
      clear hb
      go_wp2_with fail
      refine (HMuch.out w1 HB1.out).mono ?_
      rintro e w2 ⟨rfl, hb⟩
      have HB2 := Lib.hid (bthen HB1.out hb)
      clear hb
      go_wp2_with fail
      refine (HBig.out w2 HB2.out).mono ?_
      rintro e w3 ⟨rfl, hb⟩
      have HB3 := Lib.hid (bthen HB2.out hb)
      clear hb
      go_wp2_with fail
      refine (postings_new w3).mono ?_
      intro e w4 hp
      obtain ⟨xb, rfl, hb, hB4⟩ := both_start HB3.out hp
      have HBo := Lib.hid hB4
      clear hp hb hB4
      go_wp2_with fail
      obtain ⟨yb, hyb⟩ : ∃ yb, yb = w4.heap.size := ⟨_, rfl⟩
      rw [← hyb] at HBo ⊢
      generalize w4.alloc (.cells #[.slice none 0 0] 52) = W4 at *
      clear hyb
      go_loopw [37] (fun i wr => ∃ (k : Nat) (I : Ix), k ≤ m ∧ i = .int .i64 k ∧ Both w xb yb I wr ∧ I.all.length ≤ k) (fun i _ => m - (intOf i).toNat)
      case atStart => exact ⟨0, ix0, Nat.zero_le _, rfl, HBo.out, by simp [ix0]⟩
      case round =>
        obtain ⟨k, I, hk, rfl, hB, hI⟩ := hrel
        have HBr := Lib.hid hB
        have hbel : Below w.heap.size w wr := by obtain ⟨X, ab, rb, hb, inner, v, l, h1, h2⟩ := hB; exact h1.below
        have HBel := Lib.hid hbel
        by_cases hlt : k < m
        · have hkl : k < l.length := by rw [← Hm.out]; exact hlt
          obtain ⟨b, off, e1, z0, z1, z2⟩ := rdO_at (HRd.out.below hbel) hkl
          cases e1
          have hx := HOk.out _ (List.getElem_mem hkl)
          have hdo := fun (W : World) (hW : Both w xb yb I W) => HDo.out W xb yb I l[k] (List.getElem_mem hkl) hW (by omega)
          generalize l[k] = x at *
          obtain ⟨cut, ref, lv, lab⟩ := x
          simp only at z0 z1 z2 hx hdo
          have HDo1 := Lib.hid hdo
          have HAll := Lib.hid (add_len I hB.ok (⟨cut, ref, lv, lab⟩ : OpV).op)
          obtain ⟨A2, c2, rfl, -⟩ := hx
          generalize lab.length = nl at *
          have HBw := Lib.hid (hB.then (balloc (Below.refl wr.heap.size wr) (.cells #[.bool cut, .int .u64 ref, .slice A2 nl c2] 54)))
          have q0 : (wr.alloc (.cells #[.bool cut, .int .u64 ref, .slice A2 nl c2] 54)).cell? ⟨wr.heap.size, 0, none⟩ = some (.bool cut) := by simp
          have q1 : (wr.alloc (.cells #[.bool cut, .int .u64 ref, .slice A2 nl c2] 54)).cell? ⟨wr.heap.size, 1, none⟩ = some (.int .u64 ref) := by simp
          have q2 : (wr.alloc (.cells #[.bool cut, .int .u64 ref, .slice A2 nl c2] 54)).cell? ⟨wr.heap.size, 2, none⟩ = some (.slice A2 nl c2) := by simp
          clear hB hdo hbel
          go_upto_region 9 with fail
          generalize wr.alloc (.cells #[.bool cut, .int .u64 ref, .slice A2 nl c2] 54) = W5 at *
          have y0 : W5.drew.cell? ⟨wr.heap.size, 0, none⟩ = some (.bool cut) := q0
          have y1 : W5.drew.cell? ⟨wr.heap.size, 1, none⟩ = some (.int .u64 ref) := q1
          have y2 : W5.drew.cell? ⟨wr.heap.size, 2, none⟩ = some (.slice A2 nl c2) := q2
          have HBd := Lib.hid (HBw.out.then (bdrew (Below.refl _ _)))
          clear q0 q1 q2 z0 z1 z2
          go_region_law (first | (go_simp; go_at_call 24; refine (HDo1.out _ HBd.out).mono ?_; rintro e w6 ⟨rfl, N, A6, c6, hN, hB6, y6, hl6⟩) | (go_simp; go_at_call 25; refine hl6.mono ?_; rintro e w7 ⟨rfl, rfl⟩))
          all_goals
            have HB6 := Lib.hid hB6
            have hN2 : N ≤ k + 1 := by have := HAll.out; omega
            clear hB6 hl6 y6 y0 y1 y2 hN
            go_wp2_with fail
            go_roundw
            case rel => exact ⟨k + 1, _, by omega, by go_num, HB6.out, by have := HAll.out; omega⟩
            case measure => simp [intOf] <;> omega
        · obtain ⟨X, ab, rb, hb, inner, v, ls, hBo, hkeys⟩ := hB
          have HBo5 := Lib.hid hBo
          have hlb := ix_labels ask wr hBo.ix
          unfold LabelsPost at hlb
          have HFd : Hid (foundR ls q = refF I q) := Lib.hid (by rw [found_num, hkeys, num_ref hBo.ok])
          have HK := Lib.hid hkeys
          clear hBo hkeys hI
          generalize hom : mget I.all ask = om at *
          generalize hor : refF I q = orf at *
          have HOm := Lib.hid hom
          have HOr := Lib.hid hor
          have HLb := Lib.hid hlb
          clear hlb hom hor
          go_wp2_with fail
          refine HLb.out.mono ?_
          rintro e w5 ⟨va, rfl, hva, hb5⟩
          obtain ⟨Aa, ca, rfl, -⟩ := id hva
          have HBo6 := Lib.hid (HBo5.out.then hb5)
          have HVa := Lib.hid hva
          have c5 := blk_cell HBo6.out.y.hc 0
          simp at c5
          have hly := ref10_labels yb v ls ask w5 c5 HBo6.out.y.slc HBo6.out.y.ok
          have hly2 := hly.mono (fun e w' h => LabPost.uni h HBo6.out.y.ok)
          rw [HK.out, HOm.out] at hly2
          unfold LabUni at hly2
          have HLy := Lib.hid hly2
          clear hva hb5 hly hly2 c5
          go_wp2_with fail
          refine HLy.out.mono ?_
          rintro e w6 ⟨vb, rfl, hvb, hb6⟩
          obtain ⟨Ab, cb, rfl, -⟩ := id hvb
          have HBo7 := Lib.hid (HBo6.out.then hb6)
          have HVa2 := Lib.hid (HVa.out.below hb6)
          have HVb := Lib.hid hvb
          have hrf := ix_ref _ q w6 HBo7.out.ix (HQ.out.below HBo7.out.below) hzq (HT.out.below HBo7.out.below h2) (Nat.le_trans h2 HBo7.out.below.size)
          unfold RefPost at hrf
          rw [HOr.out] at hrf
          have HRf := Lib.hid hrf
          clear hvb hb6 hrf
          go_wp2_with fail
          refine HRf.out.mono ?_
          rintro e w7 ⟨rfl, hb7⟩
          have HBo8 := Lib.hid (HBo7.out.then hb7)
          have HVa3 := Lib.hid (HVa2.out.below hb7)
          have HVb3 := Lib.hid (HVb.out.below hb7)
          have c7 := blk_cell HBo8.out.y.hc 0
          simp at c7
          have hry := ref10_ref yb v _ ls q w7 c7 HBo8.out.y.slc HBo8.out.y.ok (HQ.out.below HBo8.out.below)
          rw [HFd.out] at hry
          have HRy := Lib.hid hry
          clear hb7 hry c7
          go_wp2_with fail
          refine HRy.out.mono ?_
          rintro e w8 ⟨rfl, hb8⟩
          have HB8 := Lib.hid (HBo8.out.then hb8).below
          have hsame := lab_same w8 (HVa3.out.below hb8) (HVb3.out.below hb8) w8 (Below.refl _ _)
          simp only [decide_true] at hsame
          have HSame := Lib.hid hsame
          clear hb8 hsame
          go_wp2_with fail
          refine HSame.out.mono ?_
          rintro e w9 ⟨rfl, hb9⟩
          have HB9 := Lib.hid (bthen HB8.out hb9)
          clear hb9
          have g1 : (om.isSome == om.isSome) = true := by simp
          have g2 : (orf.getD 0 == orf.getD 0) = true := by simp
          have g3 : (orf.isSome == orf.isSome) = true := by simp
          go_wp2_with fail
          go_ret
          exact ⟨rfl, HB9.out⟩
end Go.Proofs.YtlhmdgaohonpbaaGreatDoor
