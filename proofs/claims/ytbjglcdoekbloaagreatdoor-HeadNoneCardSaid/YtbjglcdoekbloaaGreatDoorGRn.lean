import Derived.Test.YtbjglcdoekbloaaGreatDoorGRwF
import Derived.Test.YtbjglcdoekbloaaGreatDoorGLaA
import Derived.Test.YtbjglcdoekbloaaGreatDoorGOrA
set_option linter.unusedSimpArgs false
set_option linter.unusedVariables false
set_option linter.unusedSectionVars false
/- a head that no call made: what its functions answer. -/
namespace Go.Proofs.YtbjglcdoekbloaaGreatDoor
open Go.RowKit Go.Proofs.YtbjglcdoekbloaaGreatDoor.MapRaw Go.ChangeMaps

/-- a pointer to a head that no call made: nil, or to one whose pointer is nil -/
def NilHead (p : Value) (w : World) : Prop := p = .pointer none ∨ ∃ zp, p = .pointer (some ⟨zp, 0, none⟩) ∧ w.cell? ⟨zp, 0, none⟩ = some (.pointer none)
theorem NilHead.below {p : Value} {w w' : World} (h : NilHead p w) (hb : Below w.heap.size w w') : NilHead p w' := by
  rcases h with rfl | ⟨zp, rfl, h⟩
  · exact .inl rfl
  · exact .inr ⟨zp, rfl, later hb h⟩
set_option maxHeartbeats 400000 in
theorem nil_is (p : Value) (w : World) (h : NilHead p w) :
    Calls Tryz.prog 34 #[p] w fun e w' => e = .returned (.bool false) ∧ w = w' := by
  rcases h with rfl | ⟨zp, rfl, h⟩
  · go_enter Tryz.func34, Tryz.ntmps34
    go_wp2
    go_ret
    exact ⟨rfl, rfl⟩
  · go_enter Tryz.func34, Tryz.ntmps34
    go_wp2
    go_ret
    exact ⟨rfl, rfl⟩
set_option maxRecDepth 100000 in
set_option maxHeartbeats 1000000 in
theorem nil_plan (p : Value) (n : Int) (v : Value) (w : World) (h : NilHead p w) :
    Calls Tryz.prog 11 #[p, .int .u64 n, v] w fun e w' => e = .returned (.tuple #[.slice none 0 0, .slice none 0 0, .int .i64 2]) ∧ Below w.heap.size w w' := by
  have HIs := Lib.hid fun (W : World) (hW : Below w.heap.size w W) => nil_is p W (h.below hW)
  clear h
  go_enter Tryz.func11, Tryz.ntmps11
  go_wp2_with fail
  refine (HIs.out _ (Below.refl _ _)).mono ?_
  rintro e w1 ⟨rfl, rfl⟩
  go_wp2_with fail
  go_ret3
  exact ⟨rfl, Below.refl _ _⟩
set_option maxRecDepth 100000 in
set_option maxHeartbeats 1000000 in
theorem nil_query (p : Value) (v : Value) (a b c : Int) (w : World) (h : NilHead p w) :
    Calls Tryz.prog 17 #[p, v, .int .i64 a, .int .i64 b, .int .u64 c] w fun e w' => e = .returned (.tuple #[.slice none 0 0, .int .i64 2]) ∧ Below w.heap.size w w' := by
  have HIs := Lib.hid fun (W : World) (hW : Below w.heap.size w W) => nil_is p W (h.below hW)
  clear h
  go_enter Tryz.func17, Tryz.ntmps17
  go_wp2_with fail
  refine (HIs.out _ (Below.refl _ _)).mono ?_
  rintro e w1 ⟨rfl, rfl⟩
  go_wp2_with fail
  go_ret2
  exact ⟨rfl, Below.refl _ _⟩
set_option maxRecDepth 100000 in
set_option maxHeartbeats 1000000 in
theorem nil_get (p : Value) (v : Value) (w : World) (h : NilHead p w) :
    Calls Tryz.prog 18 #[p, v] w fun e w' => e = .returned (.tuple #[.slice none 0 0, .bool false]) ∧ Below w.heap.size w w' := by
  have HIs := Lib.hid fun (W : World) (hW : Below w.heap.size w W) => nil_is p W (h.below hW)
  clear h
  go_enter Tryz.func18, Tryz.ntmps18
  go_wp2_with fail
  refine (HIs.out _ (Below.refl _ _)).mono ?_
  rintro e w1 ⟨rfl, rfl⟩
  go_wp2_with fail
  go_ret2
  exact ⟨rfl, Below.refl _ _⟩
set_option maxRecDepth 100000 in
set_option maxHeartbeats 1000000 in
theorem nil_count (p : Value)  (w : World) (h : NilHead p w) :
    Calls Tryz.prog 20 #[p] w fun e w' => e = .returned (.tuple #[.int .i64 0, .int .i64 0]) ∧ Below w.heap.size w w' := by
  have HIs := Lib.hid fun (W : World) (hW : Below w.heap.size w W) => nil_is p W (h.below hW)
  clear h
  go_enter Tryz.func20, Tryz.ntmps20
  go_wp2_with fail
  refine (HIs.out _ (Below.refl _ _)).mono ?_
  rintro e w1 ⟨rfl, rfl⟩
  go_wp2_with fail
  go_ret2
  exact ⟨rfl, Below.refl _ _⟩
set_option maxRecDepth 100000 in
set_option maxHeartbeats 1000000 in
theorem nil_record (p : Value) (a b : Int) (lv pv : Value) (w : World) (h : NilHead p w) :
    Calls Tryz.prog 21 #[p, .agg #[.int .i64 a, .int .u32 b, lv, pv]] w fun e w' => e = .returned (.int .i64 2) ∧ Below w.heap.size w w' := by
  have HIs := Lib.hid fun (W : World) (hW : Below w.heap.size w W) => nil_is p W (h.below hW)
  clear h
  go_enter Tryz.func21, Tryz.ntmps21
  go_wp2_with fail
  refine (HIs.out _ (balloc (Below.refl _ _) _)).mono ?_
  rintro e w1 ⟨rfl, rfl⟩
  go_wp2_with fail
  go_ret
  exact ⟨rfl, balloc (Below.refl _ _) _⟩
set_option maxRecDepth 100000 in
set_option maxHeartbeats 1000000 in
theorem nil_all (p : Value)  (w : World) (h : NilHead p w) :
    Calls Tryz.prog 22 #[p] w fun e w' => e = .returned (.slice none 0 0) ∧ Below w.heap.size w w' := by
  have HIs := Lib.hid fun (W : World) (hW : Below w.heap.size w W) => nil_is p W (h.below hW)
  clear h
  go_enter Tryz.func22, Tryz.ntmps22
  go_wp2_with fail
  refine (HIs.out _ (Below.refl _ _)).mono ?_
  rintro e w1 ⟨rfl, rfl⟩
  go_wp2_with fail
  go_ret
  exact ⟨rfl, Below.refl _ _⟩
set_option maxRecDepth 100000 in
set_option maxHeartbeats 1000000 in
theorem nil_clone (p : Value)  (w : World) (h : NilHead p w) :
    Calls Tryz.prog 23 #[p] w fun e w' => e = .returned (.pointer none) ∧ Below w.heap.size w w' := by
  have HIs := Lib.hid fun (W : World) (hW : Below w.heap.size w W) => nil_is p W (h.below hW)
  clear h
  go_enter Tryz.func23, Tryz.ntmps23
  go_wp2_with fail
  refine (HIs.out _ (Below.refl _ _)).mono ?_
  rintro e w1 ⟨rfl, rfl⟩
  go_wp2_with fail
  go_ret
  exact ⟨rfl, Below.refl _ _⟩
end Go.Proofs.YtbjglcdoekbloaaGreatDoor

/- the law's Matchers; HeadNone: it returns true. -/
namespace Go.Proofs.YtbjglcdoekbloaaGreatDoor
open Go.RowKit Go.Proofs.YtbjglcdoekbloaaGreatDoor.MapRaw Go.ChangeMaps

/-- a matcher -/
structure Mt where
  kind : Int
  n : ByteArray
  v : ByteArray
def Mt.enc (x : Mt) : List Value := [.int .i64 x.kind, .string x.n, .string x.v]
theorem rdM_at {w : World} {A : Option Addr} {l : List Mt} (h : Rd 3 Mt.enc w A l) {k : Nat} (hk : k < l.length) :
    ∃ b off, A = some ⟨b, off, none⟩ ∧ w.cell? ⟨b, off + k * 3, none⟩ = some (.int .i64 l[k].kind) ∧ w.cell? ⟨b, off + k * 3 + 1, none⟩ = some (.string l[k].n) ∧ w.cell? ⟨b, off + k * 3 + 2, none⟩ = some (.string l[k].v) := by
  obtain ⟨b, off, e, h⟩ := h k l[k] (List.getElem?_eq_getElem hk)
  exact ⟨b, off, e, h 0 _ rfl, h 1 _ rfl, h 2 _ rfl⟩
def longM (x : Mt) : Bool := decide ((200 : Int) < (x.n.size : Int)) || decide ((200 : Int) < (x.v.size : Int))
def mtsF (l : List Mt) : Bool := !(l.any longM) && decide (l.length ≤ 30)
set_option maxRecDepth 100000 in
set_option maxHeartbeats 1000000 in
theorem law_matchers {D : Nat → Prop} (v : Value) (l : List Mt) (w : World) (hv : Slc 3 Mt.enc w D v l) :
    Calls Tryz.prog 16 #[v] w fun e w' => e = .returned (.bool (mtsF l)) ∧ Below w.heap.size w w' := by
  obtain ⟨A, c, rfl, p1, p2, p3, p4, p5⟩ := hv
  have HR := Lib.hid p5
  have hm : l.length ≤ 9223372036854775807 := by simp only [maxLen] at p2; omega
  have hpf : mtsF l = (!(l.any longM) && decide ((l.length : Int) ≤ 30)) := by unfold mtsF; congr 1; simp; omega
  have HP := Lib.hid hpf
  obtain ⟨n, hn⟩ : ∃ n, n = l.length := ⟨_, rfl⟩
  have Hn := Lib.hid hn
  rw [← hn] at hm HP ⊢
  clear p1 p2 p3 p4 p5 hn hpf
  go_enter Tryz.func16, Tryz.ntmps16
  go_wp2
  go_loopw [7] (fun i wr => ∃ k : Nat, k ≤ n ∧ i = .int .i64 k ∧ AnyTo longM l k ∧ Below w.heap.size w wr) (fun i _ => n - (intOf i).toNat)
  case atStart => exact ⟨0, Nat.zero_le _, rfl, AnyTo.start _ _, Below.refl _ _⟩
  case round =>
    obtain ⟨k, hk, rfl, hE, hB⟩ := hrel
    by_cases hlt : k < n
    · have hkl : k < l.length := by rw [← Hn.out]; exact hlt
      obtain ⟨b, off, rfl, z0, z1, z2⟩ := rdM_at (Rd.below HR.out hB) hkl
      have hRd := hE.round hkl
      have hmu : longM l[k] = (decide ((200 : Int) < (l[k].n.size : Int)) || decide ((200 : Int) < (l[k].v.size : Int))) := rfl
      generalize l[k] = x at *
      obtain ⟨xk, xn, xv⟩ := x
      simp only at z0 z1 z2 hmu
      have HBr := Lib.hid hB
      have HBw : Hid (Below wr.heap.size wr (wr.alloc (.cells #[.int .i64 xk, .string xn, .string xv] 110))) := Lib.hid (balloc (Below.refl _ _) _)
      clear hE hB
      by_cases h1 : (200 : Int) < (xn.size : Int)
      · have hh : longM ⟨xk, xn, xv⟩ = true := by rw [hmu]; simp only [h1, decide_true, Bool.true_or]
        have h1' : decide ((200 : Int) < (xn.size : Int)) = true := decide_eq_true h1
        have hany : l.any longM = true := by rcases hRd with ⟨_, g⟩ | ⟨g, _⟩; exact g; rw [hh] at g; cases g
        have hres : mtsF l = false := by rw [HP.out, hany]; rfl
        have HA := Lib.hid hres
        clear hRd hmu hh hany hres
        go_wp2_with fail
        go_ret
        exact ⟨ret_bool HA.out.symm, bthen HBr.out HBw.out⟩
      · have h1' : decide ((200 : Int) < (xn.size : Int)) = false := decide_eq_false h1
        by_cases h2 : (200 : Int) < (xv.size : Int)
        · have hh : longM ⟨xk, xn, xv⟩ = true := by rw [hmu]; simp only [h2, decide_true, Bool.or_true]
          have h2' : decide ((200 : Int) < (xv.size : Int)) = true := decide_eq_true h2
          have hany : l.any longM = true := by rcases hRd with ⟨_, g⟩ | ⟨g, _⟩; exact g; rw [hh] at g; cases g
          have hres : mtsF l = false := by rw [HP.out, hany]; rfl
          have HA := Lib.hid hres
          clear hRd hmu hh hany h1 hres
          go_wp2_with fail
          go_ret
          exact ⟨ret_bool HA.out.symm, bthen HBr.out HBw.out⟩
        · have h2' : decide ((200 : Int) < (xv.size : Int)) = false := decide_eq_false h2
          have hh : longM ⟨xk, xn, xv⟩ = false := by rw [hmu, h1', h2']; rfl
          have hE' : AnyTo longM l (k + 1) := by rcases hRd with ⟨g, _⟩ | ⟨_, g⟩; rw [hh] at g; cases g; exact g
          have HE := Lib.hid hE'
          clear hRd hmu hh hE' h1 h2
          go_wp2_with fail
          go_roundw
          case rel => exact ⟨k + 1, by omega, by go_num, HE.out, bthen HBr.out HBw.out⟩
          case measure => simp [intOf] <;> omega
    · have hEd := hE.done (by rw [← Hn.out]; exact hlt)
      have hres : mtsF l = decide ((n : Int) ≤ 30) := by rw [HP.out, hEd]; rfl
      have HRes := Lib.hid hres
      have HBr := Lib.hid hB
      clear hE hB hEd hres
      go_wp2_with fail
      go_ret
      exact ⟨ret_bool HRes.out.symm, HBr.out⟩
theorem one_rec (w : World) (r : Rec) (lv pv : Value) : Slc 4 RecV.enc (w.alloc (.cells #[.int .i64 r.kind, .int .u32 r.ref, lv, pv] 45)) (fun _ => True) (.slice (some ⟨w.heap.size, 0, none⟩) 1 1) [⟨r, lv, pv⟩] := by
  refine ⟨_, _, rfl, Nat.le_refl _, by simp [maxLen], (fun e => by cases e), (fun ad e _ => by cases e; exact ⟨rfl, trivial, by simp⟩), ?_⟩
  intro i x hx
  have hi : i = 0 := by cases i with | zero => rfl | succ i => simp at hx
  subst hi
  simp at hx
  subst hx
  refine ⟨_, _, rfl, fun j u hj => ?_⟩
  match j, hj with
  | 0, hj => simp [RecV.enc] at hj; subst hj; simp
  | 1, hj => simp [RecV.enc] at hj; subst hj; simp
  | 2, hj => simp [RecV.enc] at hj; subst hj; simp
  | 3, hj => simp [RecV.enc] at hj; subst hj; simp
  | j + 4, hj => simp [RecV.enc] at hj
/-- where the law stands: its record's cells -/
def NoneW (w : World) (rb : Nat) (c0 c1 c2 c3 : Value) (W : World) : Prop := Below w.heap.size w W ∧ W.cell? ⟨rb, 0, none⟩ = some c0 ∧ W.cell? ⟨rb, 1, none⟩ = some c1 ∧ W.cell? ⟨rb, 2, none⟩ = some c2 ∧ W.cell? ⟨rb, 3, none⟩ = some c3
theorem NoneW.then {w : World} {rb : Nat} {c0 c1 c2 c3 : Value} {W W' : World} (h : NoneW w rb c0 c1 c2 c3 W) (hb : Below W.heap.size W W') : NoneW w rb c0 c1 c2 c3 W' := ⟨bthen h.1 hb, later hb h.2.1, later hb h.2.2.1, later hb h.2.2.2.1, later hb h.2.2.2.2⟩
set_option maxRecDepth 100000 in
set_option maxHeartbeats 2000000 in
theorem law_none {D : Nat → Prop} (r : Rec) (lv pv mv : Value) (ml : List Mt) (w : World) (hlv : SlL w D lv r.lab) (hpv : SlE w D pv r.pts) (hz : SzL r.lab) (hmv : Slc 3 Mt.enc w D mv ml) (hT : Tabs w) (h2 : 2 ≤ w.heap.size) :
    Calls Tryz.prog 4 #[.agg #[.int .i64 r.kind, .int .u32 r.ref, lv, pv], mv] w fun e w' => e = .returned (.bool true) ∧ Below w.heap.size w w' := by
  have HLive := Lib.hid fun (W : World) (hW : Below w.heap.size w W) => law_live W (hT.below hW h2) (Nat.le_trans h2 hW.size)
  have HRecs := Lib.hid fun (W : World) (hW : Below w.heap.size w W) => law_records (D := fun _ => True) (D' := D) (.slice (some ⟨W.heap.size, 0, none⟩) 1 1) [⟨r, lv, pv⟩] (W.alloc (.cells #[.int .i64 r.kind, .int .u32 r.ref, lv, pv] 45)) (one_rec W r lv pv) (fun x hx => by
    simp at hx; subst hx
    exact ⟨hlv.below (bthen hW (balloc (Below.refl _ _) _)), hpv.below (bthen hW (balloc (Below.refl _ _) _))⟩) (fun x hx => by simp at hx; subst hx; exact hz)
  have HMts := Lib.hid fun (W : World) (hW : Below w.heap.size w W) => law_matchers mv ml W (hmv.below hW)
  obtain ⟨rk, rr, lab, pts⟩ := r
  obtain ⟨A1, c1, rfl, -⟩ := hlv
  obtain ⟨A2, c2, rfl, -⟩ := hpv
  obtain ⟨A3, c3, rfl, -⟩ := hmv
  have a0 : (w.alloc (.cells #[.int .i64 rk, .int .u32 rr, .slice A1 lab.length c1, .slice A2 pts.length c2] 45)).cell? ⟨w.heap.size, 0, none⟩ = some (.int .i64 rk) := by simp
  have a1 : (w.alloc (.cells #[.int .i64 rk, .int .u32 rr, .slice A1 lab.length c1, .slice A2 pts.length c2] 45)).cell? ⟨w.heap.size, 1, none⟩ = some (.int .u32 rr) := by simp
  have a2 : (w.alloc (.cells #[.int .i64 rk, .int .u32 rr, .slice A1 lab.length c1, .slice A2 pts.length c2] 45)).cell? ⟨w.heap.size, 2, none⟩ = some (.slice A1 lab.length c1) := by simp
  have a3 : (w.alloc (.cells #[.int .i64 rk, .int .u32 rr, .slice A1 lab.length c1, .slice A2 pts.length c2] 45)).cell? ⟨w.heap.size, 3, none⟩ = some (.slice A2 pts.length c2) := by simp
  have HB0 : Hid (Below w.heap.size w (w.alloc (.cells #[.int .i64 rk, .int .u32 rr, .slice A1 lab.length c1, .slice A2 pts.length c2] 45))) := Lib.hid (balloc (Below.refl _ _) _)
  simp only at HRecs
  clear hz hT
  generalize recsF [⟨⟨rk, rr, lab, pts⟩, .slice A1 lab.length c1, .slice A2 pts.length c2⟩] = rb at *
  generalize mtsF ml = mb at *
  generalize lab.length = n1 at *
  generalize pts.length = n2 at *
  generalize ml.length = n3 at *
  cases rb with
  | false =>
    go_enter Tryz.func4, Tryz.ntmps4
    go_wp2_with fail
    generalize w.alloc (.cells #[.int .i64 rk, .int .u32 rr, .slice A1 n1 c1, .slice A2 n2 c2] 45) = w0 at *
    refine (HLive.out _ HB0.out).mono ?_
    rintro e w1 ⟨rfl, hb1⟩
    have z0 := later hb1 a0
    have z1 := later hb1 a1
    have z2 := later hb1 a2
    have z3 := later hb1 a3
    have HB1 := Lib.hid (bthen HB0.out hb1)
    clear hb1 a0 a1 a2 a3
    go_wp2_with fail
    refine (HRecs.out _ HB1.out).mono ?_
    rintro e w2 ⟨rfl, hb2⟩
    have HB2 := Lib.hid (bthen HB1.out (bthen (balloc (Below.refl _ _) _) hb2))
    clear hb2
    go_wp2_with fail
    refine (HLive.out _ HB2.out).mono ?_
    rintro e w3 ⟨rfl, hb3⟩
    have HB3 := Lib.hid (bthen HB2.out hb3)
    clear hb3
    go_wp2_with fail
    go_ret
    exact ⟨rfl, HB3.out⟩
  | true =>
    cases mb with
    | false =>
      go_enter Tryz.func4, Tryz.ntmps4
      go_wp2_with fail
      generalize w.alloc (.cells #[.int .i64 rk, .int .u32 rr, .slice A1 n1 c1, .slice A2 n2 c2] 45) = w0 at *
      refine (HLive.out _ HB0.out).mono ?_
      rintro e w1 ⟨rfl, hb1⟩
      have z0 := later hb1 a0
      have z1 := later hb1 a1
      have z2 := later hb1 a2
      have z3 := later hb1 a3
      have HB1 := Lib.hid (bthen HB0.out hb1)
      clear hb1 a0 a1 a2 a3
      go_wp2_with fail
      refine (HRecs.out _ HB1.out).mono ?_
      rintro e w2 ⟨rfl, hb2⟩
      have hb12 : Below w1.heap.size w1 w2 := bthen (balloc (Below.refl _ _) _) hb2
      have HB2 := Lib.hid (bthen HB1.out hb12)
      have y0 := later hb12 z0
      have y1 := later hb12 z1
      have y2 := later hb12 z2
      have y3 := later hb12 z3
      clear hb2 hb12 z0 z1 z2 z3
      go_wp2_with fail
      refine (HMts.out _ HB2.out).mono ?_
      rintro e w3 ⟨rfl, hb3⟩
      have HB3 := Lib.hid (bthen HB2.out hb3)
      clear hb3 y0 y1 y2 y3
      go_wp2_with fail
      refine (HLive.out _ HB3.out).mono ?_
      rintro e w4 ⟨rfl, hb4⟩
      have HB4 := Lib.hid (bthen HB3.out hb4)
      clear hb4
      go_wp2_with fail
      go_ret
      exact ⟨rfl, HB4.out⟩
    | true =>
      go_enter Tryz.func4, Tryz.ntmps4
      go_wp2_with fail
      generalize w.alloc (.cells #[.int .i64 rk, .int .u32 rr, .slice A1 n1 c1, .slice A2 n2 c2] 45) = w0 at *
      refine (HLive.out _ HB0.out).mono ?_
      rintro e w1 ⟨rfl, hb1⟩
      have z0 := later hb1 a0
      have z1 := later hb1 a1
      have z2 := later hb1 a2
      have z3 := later hb1 a3
      have HB1 := Lib.hid (bthen HB0.out hb1)
      clear hb1 a0 a1 a2 a3
      go_wp2_with fail
      refine (HRecs.out _ HB1.out).mono ?_
      rintro e w2 ⟨rfl, hb2⟩
      have hb12 : Below w1.heap.size w1 w2 := bthen (balloc (Below.refl _ _) _) hb2
      have HB2 := Lib.hid (bthen HB1.out hb12)
      have y0 := later hb12 z0
      have y1 := later hb12 z1
      have y2 := later hb12 z2
      have y3 := later hb12 z3
      clear hb2 hb12 z0 z1 z2 z3
      go_wp2_with fail
      refine (HMts.out _ HB2.out).mono ?_
      rintro e w3 ⟨rfl, hb3⟩
      have HB3 := Lib.hid (bthen HB2.out hb3)
      have HN3 : Hid (NoneW w w.heap.size (.int .i64 rk) (.int .u32 rr) (.slice A1 n1 c1) (.slice A2 n2 c2) w3) := Lib.hid ⟨HB3.out, later hb3 y0, later hb3 y1, later hb3 y2, later hb3 y3⟩
      clear hb3 y0 y1 y2 y3
      go_wp2_with fail
      have hzb : Below w3.heap.size w3 (w3.alloc (.cells #[.pointer none] 51)) := balloc (Below.refl _ _) _
      have hzc : (w3.alloc (.cells #[.pointer none] 51)).cell? ⟨w3.heap.size, 0, none⟩ = some (.pointer none) := by simp
      have HNz := Lib.hid (HN3.out.then hzb)
      have HZ : Hid (NilHead (.pointer (some ⟨w3.heap.size, 0, none⟩)) (w3.alloc (.cells #[.pointer none] 51))) := Lib.hid (.inr ⟨_, rfl, hzc⟩)
      clear hzb hzc
      generalize w3.alloc (.cells #[.pointer none] 51) = wz at *
      generalize w3.heap.size = zb at *
      refine (nil_plan (.pointer none) 1 (.slice none 0 0) wz (.inl rfl)).mono ?_
      rintro e w4 ⟨rfl, hb4⟩
      have HZ4 := Lib.hid (HZ.out.below hb4)
      have HN4 := Lib.hid (HNz.out.then hb4)
      clear hb4
      go_wp2_with fail
      refine (nil_query _ _ 0 9 9 w4 HZ4.out).mono ?_
      rintro e w5 ⟨rfl, hb5⟩
      have HZ5 := Lib.hid (HZ4.out.below hb5)
      have HN5 := Lib.hid (HN4.out.then hb5)
      clear hb5
      go_wp2_with fail
      have hone := law_one sX w5
      unfold OnePost at hone
      refine hone.mono ?_
      rintro e w6 ⟨v6, rfl, hv6, hb6⟩
      obtain ⟨A6, c6, rfl, -⟩ := hv6
      have HZ6 := Lib.hid (HZ5.out.below hb6)
      have HN6 := Lib.hid (HN5.out.then hb6)
      clear hb6 hone
      go_wp2_with fail
      refine (nil_get (.pointer none) _ w6 (.inl rfl)).mono ?_
      rintro e w7 ⟨rfl, hb7⟩
      have HZ7 := Lib.hid (HZ6.out.below hb7)
      have HN7 := Lib.hid (HN6.out.then hb7)
      clear hb7
      go_wp2_with fail
      refine (nil_count _ w7 HZ7.out).mono ?_
      rintro e w8 ⟨rfl, hb8⟩
      have HZ8 := Lib.hid (HZ7.out.below hb8)
      have HN8 := Lib.hid (HN7.out.then hb8)
      obtain ⟨-, y0, y1, y2, y3⟩ := HN8.out
      clear hb8
      go_wp2_with fail
      refine (nil_record (.pointer none) rk rr _ _ w8 (.inl rfl)).mono ?_
      rintro e w9 ⟨rfl, hb9⟩
      have HZ9 := Lib.hid (HZ8.out.below hb9)
      have HN9 := Lib.hid (HN8.out.then hb9)
      clear hb9 y0 y1 y2 y3
      obtain ⟨-, y0, y1, y2, y3⟩ := HN9.out
      go_wp2_with fail
      refine (nil_record _ rk rr _ _ w9 HZ9.out).mono ?_
      rintro e w10 ⟨rfl, hb10⟩
      have HZ10 := Lib.hid (HZ9.out.below hb10)
      have HB10 := Lib.hid (bthen HN9.out.1 hb10)
      clear hb10 y0 y1 y2 y3
      go_wp2_with fail
      refine (nil_all (.pointer none) w10 (.inl rfl)).mono ?_
      rintro e w11 ⟨rfl, hb11⟩
      have HZ11 := Lib.hid (HZ10.out.below hb11)
      have HB11 := Lib.hid (bthen HB10.out hb11)
      clear hb11
      go_wp2_with fail
      refine (nil_all _ w11 HZ11.out).mono ?_
      rintro e w12 ⟨rfl, hb12⟩
      have HZ12 := Lib.hid (HZ11.out.below hb12)
      have HB12 := Lib.hid (bthen HB11.out hb12)
      clear hb12
      go_wp2_with fail
      refine (nil_clone (.pointer none) w12 (.inl rfl)).mono ?_
      rintro e w13 ⟨rfl, hb13⟩
      have HZ13 := Lib.hid (HZ12.out.below hb13)
      have HB13 := Lib.hid (bthen HB12.out hb13)
      clear hb13
      go_wp2_with fail
      refine (nil_clone _ w13 HZ13.out).mono ?_
      rintro e w14 ⟨rfl, hb14⟩
      have HB14 := Lib.hid (bthen HB13.out hb14)
      clear hb14
      have hsm := same_lab (D := fun _ => True) (D' := fun _ => True) (v := .slice none 0 0) (v' := .slice none 0 0) (l := []) w14 (Slc.nil _ _ _ _) (Slc.nil _ _ _ _) w14 (Below.refl _ _)
      have HSm := Lib.hid hsm
      clear hsm
      go_wp2_with fail
      refine HSm.out.mono ?_
      rintro e w15 ⟨rfl, hb15⟩
      have HB15 := Lib.hid (bthen HB14.out hb15)
      clear hb15
      go_wp2_with fail
      go_ret
      exact ⟨rfl, HB15.out⟩
end Go.Proofs.YtbjglcdoekbloaaGreatDoor
