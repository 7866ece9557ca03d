import Derived.Test.YtlhmdgaohonpbaaGreatDoorGDz
import Derived.Test.YtlhmdgaohonpbaaGreatDoorGPi
import Derived.Test.YtlhmdgaohonpbaaGreatDoorGSeB
import Derived.Test.YtlhmdgaohonpbaaGreatDoorGLj
import Derived.Test.YtlhmdgaohonpbaaGreatDoorGNuA
import Derived.Test.YtlhmdgaohonpbaaGreatDoorGKH
set_option linter.unusedSimpArgs false
set_option linter.unusedVariables false
set_option linter.unusedSectionVars false
namespace Go.Proofs.YtlhmdgaohonpbaaGreatDoor
open Go.RowKit Go.Proofs.YtlhmdgaohonpbaaGreatDoor.MapRaw Go.ChangeMaps
def longX (x : Mt) : Bool := decide (200 < x.n.size) || decide (200 < x.v.size)
def longB (l : List Mt) : Bool := decide (30 < l.length) || l.any longX
set_option maxRecDepth 100000 in
set_option maxHeartbeats 1000000 in
theorem law_long {D : Nat → Prop} (v : Value) (l : List Mt) (w : World) (hv : Slc 3 Mt.enc w D v l) :
  Calls Tryz.prog 11 #[v] w fun e w' => e = .returned (.bool (longB l)) ∧ Below w.heap.size w w' := by
 obtain ⟨A, c, rfl, p1, p2, -, -, p5⟩ := hv
 have HRd := Lib.hid fun (W : World) (hW : Below w.heap.size w W) => Rd.below p5 hW
 have hm9 : l.length ≤ 9223372036854775807 := by simp only [maxLen] at p2; omega
 obtain ⟨m, hm⟩ : ∃ m, m = l.length := ⟨_, rfl⟩
 have Hm := Lib.hid hm
 unfold longB
 rw [← hm] at hm9 ⊢
 clear p1 p2 p5 hm
 by_cases h30 : 30 < m
 ·have hd : decide ((m : Int) > 30) = true := decide_eq_true (by omega)
  have hd' : decide ((30 : Int) < (m : Int)) = true := decide_eq_true (by omega)
  rw [decide_eq_true h30, Bool.true_or]
  clear h30
  go_enter Tryz.func11, Tryz.ntmps11
  go_wp2_with fail
  go_ret
  exact ⟨rfl, Below.refl _ _⟩
 ·have hd : decide ((m : Int) > 30) = false := decide_eq_false (by omega)
  have hd' : decide ((30 : Int) < (m : Int)) = false := decide_eq_false (by omega)
  rw [decide_eq_false h30, Bool.false_or]
  have HAny : Hid (l.any longX = l.any longX) := Lib.hid rfl
  generalize hres : l.any longX = res at *
  have HRes := Lib.hid hres
  clear h30 HAny hres
  go_enter Tryz.func11, Tryz.ntmps11
  go_wp2_with fail
  go_loopw [10] (fun i wr => ∃ k : Nat, k ≤ m ∧ i = .int .i64 k ∧ AnyTo longX l k ∧ Below w.heap.size w wr) (fun i _ => m - (intOf i).toNat)
  case atStart => exact ⟨0, Nat.zero_le _, rfl, AnyTo.start _ _, Below.refl _ _⟩
  case round =>
   obtain ⟨k, hk, rfl, hE, hB⟩ := hrel
   have HBr := Lib.hid hB
   by_cases hlt : k < m
   ·have hkl : k < l.length := by rw [← Hm.out]; exact hlt
    obtain ⟨b, off, e1, z9, z0, z1⟩ := rdM_at (HRd.out wr hB) hkl
    cases e1
    have hRd := hE.round hkl
    generalize l[k] = x at *
    obtain ⟨xk, xn, xv⟩ := x
    simp only at z9 z0 z1
    have hbx : longX ⟨xk, xn, xv⟩ = (decide (200 < xn.size) || decide (200 < xv.size)) := rfl
    rw [hbx] at hRd
    have HRnd := Lib.hid hRd
    have HBw := Lib.hid (bthen hB (balloc (Below.refl wr.heap.size wr) (.cells #[.int .i64 xk, .string xn, .string xv] 68)))
    clear hE hB hRd hbx
    by_cases hn2 : 200 < xn.size
    ·have e1 : decide ((xn.size : Int) > 200) = true := decide_eq_true (by omega)
     have e2 : decide ((200 : Int) < (xn.size : Int)) = true := decide_eq_true (by omega)
     have HE : Hid (res = true) := Lib.hid (by rw [← HRes.out]; rcases HRnd.out with ⟨-, g⟩ | ⟨g, -⟩; exact g; rw [decide_eq_true hn2] at g; cases g)
     clear hn2
     go_wp2_with fail
     go_ret
     exact ⟨ret_bool HE.out.symm, HBw.out⟩
    ·have e1 : decide ((xn.size : Int) > 200) = false := decide_eq_false (by omega)
     have e2 : decide ((200 : Int) < (xn.size : Int)) = false := decide_eq_false (by omega)
     by_cases hv2 : 200 < xv.size
     ·have e3 : decide ((xv.size : Int) > 200) = true := decide_eq_true (by omega)
      have e4 : decide ((200 : Int) < (xv.size : Int)) = true := decide_eq_true (by omega)
      have HE : Hid (res = true) := Lib.hid (by rw [← HRes.out]; rcases HRnd.out with ⟨-, g⟩ | ⟨g, -⟩; exact g; rw [decide_eq_true hv2, Bool.or_true] at g; cases g)
      clear hn2 hv2
      go_wp2_with fail
      go_ret
      exact ⟨ret_bool HE.out.symm, HBw.out⟩
     ·have e3 : decide ((xv.size : Int) > 200) = false := decide_eq_false (by omega)
      have e4 : decide ((200 : Int) < (xv.size : Int)) = false := decide_eq_false (by omega)
      have HE : Hid (AnyTo longX l (k + 1)) := Lib.hid (by rcases HRnd.out with ⟨g, -⟩ | ⟨-, g⟩; rw [decide_eq_false hn2, decide_eq_false hv2] at g; cases g; exact g)
      clear hn2 hv2
      go_wp2_with fail
      go_roundw
      case rel => exact ⟨k + 1, by omega, by go_num, HE.out, HBw.out⟩
      case measure => simp [intOf] <;> omega
   ·have hEd := hE.done (by rw [← Hm.out]; exact hlt)
    have HE : Hid (res = false) := Lib.hid (by rw [← HRes.out, hEd])
    clear hE hB hEd
    go_wp2_with fail
    go_ret
    exact ⟨ret_bool HE.out.symm, HBr.out⟩
structure Tw (w0 : World) (xb yb : Nat) (I J : Ix) (X : List Nat) (a1 r1 h1 : Nat) (in1 : Pairs) (a2 r2 h2 : Nat) (in2 : Pairs) (w : World) : Prop where
 x : IxAt w X xb I a1 r1 h1 in1
 y : IxAt w X yb J a2 r2 h2 in2
 sep : ∀ k, blksI a1 r1 h1 in1 k → ¬ blksI a2 r2 h2 in2 k
 xX : xb ∉ X
 yX : yb ∉ X
 okx : IxOk I
 oky : IxOk J
 new : ∀ k ∈ X, w0.heap.size ≤ k
 below : Below w0.heap.size w0 w
def TwE (w0 : World) (xb yb : Nat) (I J : Ix) (w : World) : Prop := ∃ X a1 r1 h1 in1 a2 r2 h2 in2, Tw w0 xb yb I J X a1 r1 h1 in1 a2 r2 h2 in2 w
theorem TwE.swap {w0 w : World} {xb yb : Nat} {I J : Ix} (h : TwE w0 xb yb I J w) : TwE w0 yb xb J I w := by
 obtain ⟨X, a1, r1, h1, in1, a2, r2, h2, in2, h⟩ := h
 exact ⟨X, a2, r2, h2, in2, a1, r1, h1, in1, h.y, h.x, fun k hk hk2 => h.sep k hk2 hk, h.yX, h.xX, h.oky, h.okx, h.new, h.below⟩
theorem TwE.then {w0 w w2 : World} {xb yb : Nat} {I J : Ix} (h : TwE w0 xb yb I J w) (hb : Below w.heap.size w w2) : TwE w0 xb yb I J w2 := by
 obtain ⟨X, a1, r1, h1, in1, a2, r2, h2, in2, h⟩ := h
 exact ⟨X, a1, r1, h1, in1, a2, r2, h2, in2, h.x.below hb, h.y.below hb, h.sep, h.xX, h.yX, h.okx, h.oky, h.new, bthen h.below hb⟩
theorem TwE.below {w0 w : World} {xb yb : Nat} {I J : Ix} (h : TwE w0 xb yb I J w) : Below w0.heap.size w0 w := by
 obtain ⟨X, a1, r1, h1, in1, a2, r2, h2, in2, h⟩ := h
 exact h.below
theorem TwE.add {w0 w : World} {xb yb : Nat} {I J : Ix} (ref : Int) (v : Value) (lab : List Lb) (h : TwE w0 xb yb I J w) (hv : SlL w (fun k => k < w0.heap.size) v lab) (hz : SzL lab) (hT : Tabs w0) (h2 : 2 ≤ w0.heap.size) :
  Calls Tryz.prog 15 #[.pointer (some ⟨xb, 0, none⟩), .int .u64 ref, v] w fun e w' => e = .returned (.int .i64 (addErr I ref lab)) ∧ TwE w0 xb yb (if addErr I ref lab = 0 then addI I ref lab else I) J w' := by
 obtain ⟨X, a1, r1, h1, in1, a2, r2, h3, in2, h⟩ := h
 by_cases he : addErr I ref lab = 0
 ·rw [he, if_pos rfl]
  refine (ix_addD ref v lab w h.x h.xX (fun k hk e => by have := h.new a1 (h.x.sub a1 (by simp)); omega) hv hz (hT.below h.below h2) (Nat.le_trans h2 h.below.size) he).mono ?_
  intro e w' hp
  obtain ⟨he2, X', inner', ht⟩ := XTurned.ofAdd hp
  have hno : ∀ k, k < w.heap.size → blksI a2 r2 h3 in2 k → ¬ blksI a1 r1 h1 inner' k := fun k hk hn hm => by
   rcases List.mem_append.1 hm with hm | hm
   ·exact h.sep k (List.mem_append_left _ hm) hn
   ·rcases ht.fine k hm with hm | hm
    ·exact h.sep k (List.mem_append_right _ hm) hn
    ·omega
  have hxl := (Array.getElem?_eq_some_iff.1 h.x.cells).1
  have hyl := (Array.getElem?_eq_some_iff.1 h.y.cells).1
  refine ⟨he2, X', a1, r1, h1, inner', a2, r2, h3, in2, ht.ix, h.y.move ht.apart.size (fun k hk hor => ht.apart.block k hk (fun hi => ?_)) (fun k hk hX => ht.more.out hk hX) ht.more.old (fun k hk => ht.ix.lt k hk), fun k hk hk2 => hno k (h.y.lt k (h.y.sub k hk2)) hk2 hk, fun hk => (ht.more.new xb hk).elim h.xX (fun g => by omega), fun hk => (ht.more.new yb hk).elim h.yX (fun g => by omega), ?_, h.oky, fun k hk => (ht.more.new k hk).elim (h.new k) (fun g => Nat.le_trans h.below.size g), apart_below h.below ht.apart (fun k hk => h.new k (h.x.sub k hk))⟩
  ·rcases hor with g | g | g
   ·exact g (h.x.sub k hi)
   ·subst g; exact h.yX (h.x.sub _ hi)
   ·exact h.sep k hi g
  ·obtain ⟨g1, g2, g3, _⟩ := add_all10 he
   exact h.okx.add g1 g2 g3
 ·rw [if_neg he]
  refine (ix_add_refused ref v lab w h.x hv hz (hT.below h.below h2) (Nat.le_trans h2 h.below.size) he).mono ?_
  rintro e w' ⟨he2, hb2⟩
  exact ⟨he2, TwE.then ⟨X, a1, r1, h1, in1, a2, r2, h3, in2, h⟩ hb2⟩
structure RotTo (l : List (List Lb)) (visit : Nat → Nat) (i : Nat) (I : Ix) : Prop where
 ok : IxOk I
 at_ : ∀ (r : Int) (lab : List Lb), mget I.all r = some lab ↔ ∃ j, j < i ∧ r = (visit j : Int) ∧ l[visit j]? = some lab ∧ rightF lab = 0
 len : I.all.length ≤ i
theorem RotTo.start (l : List (List Lb)) (visit : Nat → Nat) : RotTo l visit 0 ix0 := ⟨IxOk.start, fun r lab => ⟨fun h => by simp [ix0, mget] at h, fun ⟨j, hj, _⟩ => by omega⟩, by simp [ix0]⟩
theorem RotTo.next {l : List (List Lb)} {visit : Nat → Nat} {i : Nat} {I : Ix} (h : RotTo l visit i I) {lab : List Lb} (hl : l[visit i]? = some lab) (hi : i < 4096) (hinj : ∀ j, j < i → visit j ≠ visit i) (hd : ∀ a b : Nat, a ≠ b → ∀ x, l[a]? = some x → l[b]? ≠ some x) :
  addErr I (visit i : Int) lab = rightF lab ∧ RotTo l visit (i + 1) (if addErr I (visit i : Int) lab = 0 then addI I (visit i : Int) lab else I) := by
 by_cases hr : rightF lab = 0
 ·have h1 : mget I.all (visit i : Int) = none := by
   cases e : mget I.all (visit i : Int) with
   | none => rfl
   | some x =>
    obtain ⟨j, hj, hv, _⟩ := (h.at_ _ _).1 e
    exact (hinj j hj (by omega)).elim
  have h2 : mget I.refs (printF lab) = none := by
   cases e : mget I.refs (printF lab) with
   | none => rfl
   | some r =>
    obtain ⟨l', g1, g2⟩ := h.ok.ref _ _ e
    have := print_inj (h.ok.right _ _ g1) hr g2
    subst this
    obtain ⟨j, hj, hv, hlj, _⟩ := (h.at_ _ _).1 g1
    exact (hd _ _ (hinj j hj) _ hlj hl).elim
  have he : addErr I (visit i : Int) lab = 0 := by
   unfold addErr
   rw [if_neg (by simpa using hr), if_neg (by rw [h1, h2]; simp), if_neg (by have := h.len; omega)]
  rw [he, if_pos rfl]
  refine ⟨hr.symm, h.ok.add hr h1 h2, fun r x => ?_, ?_⟩
  ·have hg : mget (addI I (visit i : Int) lab).all r = if (visit i : Int) = r then some lab else mget I.all r := mget_put _ _ _ _
   rw [hg]
   by_cases e : (visit i : Int) = r
   ·rw [if_pos e]
    constructor
    ·intro hx
     cases hx
     exact ⟨i, by omega, e.symm, hl, hr⟩
    ·rintro ⟨j, hj, hv, hlj, _⟩
     have hji : visit j = visit i := by omega
     rw [hji, hl] at hlj
     exact hlj
   ·rw [if_neg e, h.at_]
    constructor
    ·rintro ⟨j, hj, r2⟩; exact ⟨j, by omega, r2⟩
    ·rintro ⟨j, hj, hv, r2⟩
     refine ⟨j, ?_, hv, r2⟩
     by_cases hji : j = i
     ·subst hji; exact (e hv.symm).elim
     ·omega
  ·obtain ⟨_, _, _, g4, _⟩ := add_all10 he
   rw [g4, List.length_append]
   have := h.len
   simp; omega
 ·have he : addErr I (visit i : Int) lab = rightF lab := by unfold addErr; rw [if_pos hr]
  rw [he, if_neg hr]
  refine ⟨rfl, h.ok, fun r x => ?_, Nat.le_succ_of_le h.len⟩
  rw [h.at_]
  constructor
  ·rintro ⟨j, hj, r2⟩; exact ⟨j, by omega, r2⟩
  ·rintro ⟨j, hj, hv, hlj, hx⟩
   refine ⟨j, ?_, hv, hlj, hx⟩
   by_cases hji : j = i
   ·subst hji
    rw [hl] at hlj
    cases hlj
    exact (hr hx).elim
   ·omega
theorem select_same {I J : Ix} (hI : IxOk I) (hJ : IxOk J) (h : ∀ r, mget I.all r = mget J.all r) (ml : List Mt) : selectF I ml = selectF J ml := by
 have strict : ∀ {I : Ix}, IxOk I → (selectF I ml).Pairwise (· < ·) := fun {I} hI => by
  have hn : (selectF I ml).Nodup := (sorted_perm _).nodup_iff.2 (selL_nodup hI.an ml)
  have hle := sorted_le (selL I ml)
  unfold selectF at hn ⊢
  exact (List.Pairwise.and hle hn).imp (fun h => by have := h.1; have := h.2; omega)
 refine strict_ext (strict hI) (strict hJ) (fun r => ?_)
 rw [mem_select hI, mem_select hJ]
 simp only [h]
end Go.Proofs.YtlhmdgaohonpbaaGreatDoor

namespace Go.Proofs.YtlhmdgaohonpbaaGreatDoor
open Go.RowKit Go.Proofs.YtlhmdgaohonpbaaGreatDoor.MapRaw Go.ChangeMaps
theorem right_sz {I : Ix} (hI : IxOk I) : ∀ p ∈ I.all, ∀ x ∈ p.2, x.v.size ≤ 1000000 := fun p hp x hx => by
 have h1 := (right_ok (hI.right p.1 p.2 (mget_of_mem hI.an hp))).2 x hx
 have h2 := h1.2.1
 unfold valuedF at h2
 simp only [Bool.and_eq_true, decide_eq_true_eq] at h2
 omega
def selR (I : Ix) (ml : List Mt) : List Int := if readyE ml = 0 then selectF I ml else []
def SelV (w : World) (sr : List Int) (re : Int) (e : Ending) (w' : World) : Prop := ∃ v, e = .returned (.tuple #[v, .int .i64 re]) ∧ SlU w' (fun k => w.heap.size ≤ k) v sr ∧ Below w.heap.size w w'
theorem SelPost.v {w w' : World} {I : Ix} {ml : List Mt} {e : Ending} (h : SelPost w I ml e w') : SelV w (selR I ml) (readyE ml) e w' := by
 unfold selR
 rcases h with ⟨h0, v, rfl, hs, hb⟩ | ⟨h0, rfl, hb⟩
 ·exact ⟨v, by rw [h0], by rw [if_pos h0]; exact hs, hb⟩
 ·exact ⟨_, rfl, by rw [if_neg h0]; exact Slc.nil _ _ _ _, hb⟩
theorem DSelPost.v {w w' : World} {I : Ix} (hI : IxOk I) {ml : List Mt} {e : Ending} (h : DSelPost w ml I.all e w') : SelV w (selR I ml) (readyE ml) e w' := by
 unfold selR
 rcases h with ⟨h0, v, rfl, hs, hb⟩ | ⟨h0, rfl, hb⟩
 ·exact ⟨v, by rw [h0], by rw [if_pos h0, ← sel_doc hI]; exact hs, hb⟩
 ·exact ⟨_, rfl, by rw [if_neg h0]; exact Slc.nil _ _ _ _, hb⟩
end Go.Proofs.YtlhmdgaohonpbaaGreatDoor
