import Derived.Test.YtbjglcdoekbloaaGreatDoorGLaA
import Derived.Test.YtbjglcdoekbloaaGreatDoorGOrA
set_option linter.unusedSimpArgs false
set_option linter.unusedVariables false
set_option linter.unusedSectionVars false
/- the law's records. -/
namespace Go.Proofs.YtbjglcdoekbloaaGreatDoor
open Go.RowKit Go.Proofs.YtbjglcdoekbloaaGreatDoor.MapRaw Go.ChangeMaps

def recB (x : RecV) : Bool := decide (300 < x.r.pts.length) || bigF x.r.lab
def recsF (l : List RecV) : Bool := !(l.any recB) && decide (l.length ≤ 60)
set_option maxRecDepth 100000 in
set_option maxHeartbeats 1000000 in
theorem law_records {D D' : Nat → Prop} (v : Value) (l : List RecV) (w : World) (hv : Slc 4 RecV.enc w D v l) (hl : RecOk w D' l) (hz : ∀ x ∈ l, SzL x.r.lab) :
    Calls Tryz.prog 15 #[v] w fun e w' => e = .returned (.bool (recsF l)) ∧ Below w.heap.size w w' := by
  obtain ⟨A, c, rfl, p1, p2, p3, p4, p5⟩ := hv
  have HR := Lib.hid p5
  have HL := Lib.hid hl
  have HZ := Lib.hid hz
  have hm : l.length ≤ 9223372036854775807 := by simp only [maxLen] at p2; omega
  have hpf : recsF l = (!(l.any recB) && decide ((l.length : Int) ≤ 60)) := by unfold recsF; congr 1; simp; omega
  have HP := Lib.hid hpf
  obtain ⟨n, hn⟩ : ∃ n, n = l.length := ⟨_, rfl⟩
  have Hn := Lib.hid hn
  rw [← hn] at hm HP ⊢
  clear p1 p2 p3 p4 p5 hl hz hn hpf
  go_enter Tryz.func15, Tryz.ntmps15
  go_wp2
  go_loopw [7] (fun i wr => ∃ k : Nat, k ≤ n ∧ i = .int .i64 k ∧ AnyTo recB l k ∧ Below w.heap.size w wr) (fun i _ => n - (intOf i).toNat)
  case atStart => exact ⟨0, Nat.zero_le _, rfl, AnyTo.start _ _, Below.refl _ _⟩
  case round =>
    obtain ⟨k, hk, rfl, hE, hB⟩ := hrel
    by_cases hlt : k < n
    · have hkl : k < l.length := by rw [← Hn.out]; exact hlt
      obtain ⟨b, off, rfl, z0, z1, z2, z3⟩ := rdR_at (Rd.below HR.out hB) hkl
      have hx := HL.out _ (List.getElem_mem hkl)
      have hzx := HZ.out _ (List.getElem_mem hkl)
      have hRd := hE.round hkl
      generalize l[k] = x at *
      obtain ⟨⟨rk, rr, lab, pts⟩, zlv, zpv⟩ := x
      simp only at z0 z1 z2 z3 hx hzx hRd
      have hbig := fun (W : World) (hW : Below w.heap.size w W) => law_big _ _ W (hx.1.below hW) hzx
      obtain ⟨⟨A2, c2, rfl, -⟩, ⟨A3, c3, rfl, -⟩⟩ := hx
      have HBig := Lib.hid hbig
      have HBr := Lib.hid hB
      have HBw : Hid (Below wr.heap.size wr (wr.alloc (.cells #[.int .i64 rk, .int .u32 rr, .slice A2 lab.length c2, .slice A3 pts.length c3] 45))) := Lib.hid (balloc (Below.refl _ _) _)
      have hfb : recB ⟨⟨rk, rr, lab, pts⟩, .slice A2 lab.length c2, .slice A3 pts.length c3⟩ = (decide ((300 : Int) < (pts.length : Int)) || bigF lab) := by unfold recB; congr 1; simp; omega
      rw [hfb] at hRd
      generalize pts.length = n3 at *
      generalize lab.length = n2 at *
      clear hE hB hbig hfb hzx
      rcases hRd with ⟨g1, g2⟩ | ⟨g1, g2⟩
      · have hres : recsF l = false := by rw [HP.out, g2]; rfl
        have HRes := Lib.hid hres
        by_cases hp : (300 : Int) < (n3 : Int)
        · have hd : decide ((300 : Int) < (n3 : Int)) = true := decide_eq_true hp
          clear g1 g2 hres
          go_wp2_with fail
          go_ret
          exact ⟨ret_bool HRes.out.symm, bthen HBr.out HBw.out⟩
        · have hd : decide ((300 : Int) < (n3 : Int)) = false := decide_eq_false hp
          rw [hd, Bool.false_or] at g1
          rw [g1] at HBig
          clear g1 g2 hres
          go_wp2_with fail
          refine (HBig.out _ (bthen HBr.out HBw.out)).mono ?_
          rintro e w1 ⟨rfl, hb⟩
          have HB1 := Lib.hid (bthen (bthen HBr.out HBw.out) hb)
          clear hb
          go_wp2_with fail
          go_ret
          exact ⟨ret_bool HRes.out.symm, HB1.out⟩
      · have hd : decide ((300 : Int) < (n3 : Int)) = false := by cases h : decide ((300 : Int) < (n3 : Int)) with
          | false => rfl
          | true => rw [h] at g1; cases g1
        rw [hd, Bool.false_or] at g1
        rw [g1] at HBig
        have G2 := Lib.hid g2
        clear g1 g2
        go_wp2_with fail
        refine (HBig.out _ (bthen HBr.out HBw.out)).mono ?_
        rintro e w1 ⟨rfl, hb⟩
        have HB1 := Lib.hid (bthen (bthen HBr.out HBw.out) hb)
        clear hb
        go_wp2_with fail
        go_roundw
        case rel => exact ⟨k + 1, by omega, by go_num, G2.out, HB1.out⟩
        case measure => simp [intOf] <;> omega
    · have hEd := hE.done (by rw [← Hn.out]; exact hlt)
      have hres : recsF l = decide ((n : Int) ≤ 60) := by rw [HP.out, hEd]; rfl
      have HRes := Lib.hid hres
      have HBr := Lib.hid hB
      clear hE hB hEd hres
      go_wp2_with fail
      go_ret
      exact ⟨ret_bool HRes.out.symm, HBr.out⟩
end Go.Proofs.YtbjglcdoekbloaaGreatDoor
