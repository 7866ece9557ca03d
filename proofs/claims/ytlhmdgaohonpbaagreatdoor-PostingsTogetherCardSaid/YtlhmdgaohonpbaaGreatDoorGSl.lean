import Derived.Test.YtlhmdgaohonpbaaGreatDoorGDz
import Derived.Test.YtlhmdgaohonpbaaGreatDoorGPi
import Derived.Test.YtlhmdgaohonpbaaGreatDoorGSeB
import Derived.Test.YtlhmdgaohonpbaaGreatDoorGLj
import Derived.Test.YtlhmdgaohonpbaaGreatDoorGNuA
import Derived.Test.YtlhmdgaohonpbaaGreatDoorGKH
set_option linter.unusedSimpArgs false
set_option linter.unusedVariables false
set_option linter.unusedSectionVars false
namespace Go.Proofs.YtlhmdgaohonpbaaGreatDoor
open Go.RowKit Go.Proofs.YtlhmdgaohonpbaaGreatDoor.MapRaw Go.ChangeMaps
def longX (x : Mt) : Bool := decide (200 < x.n.size) || decide (200 < x.v.size)
def longB (l : List Mt) : Bool := decide (30 < l.length) || l.any longX
set_option maxRecDepth 100000 in
set_option maxHeartbeats 1000000 in
theorem law_long {D : Nat → Prop} (v : Value) (l : List Mt) (w : World) (hv : Slc 3 Mt.enc w D v l) :
    Calls Tryz.prog 11 #[v] w fun e w' => e = .returned (.bool (longB l)) ∧ Below w.heap.size w w' := by
  obtain ⟨A, c, rfl, p1, p2, -, -, p5⟩ := hv
  have HRd := Lib.hid fun (W : World) (hW : Below w.heap.size w W) => Rd.below p5 hW
  have hm9 : l.length ≤ 9223372036854775807 := by simp only [maxLen] at p2; omega
  obtain ⟨m, hm⟩ : ∃ m, m = l.length := ⟨_, rfl⟩
  have Hm := Lib.hid hm
  unfold longB
  rw [← hm] at hm9 ⊢
  clear p1 p2 p5 hm
  by_cases h30 : 30 < m
  · have hd : decide ((m : Int) > 30) = true := decide_eq_true (by omega)
    have hd' : decide ((30 : Int) < (m : Int)) = true := decide_eq_true (by omega)
    rw [decide_eq_true h30, Bool.true_or]
    clear h30
    go_enter Tryz.func11, Tryz.ntmps11
    go_wp2_with fail
    go_ret
    exact ⟨rfl, Below.refl _ _⟩
  · have hd : decide ((m : Int) > 30) = false := decide_eq_false (by omega)
    have hd' : decide ((30 : Int) < (m : Int)) = false := decide_eq_false (by omega)
    rw [decide_eq_false h30, Bool.false_or]
    have HAny : Hid (l.any longX = l.any longX) := Lib.hid rfl
    generalize hres : l.any longX = res at *
    have HRes := Lib.hid hres
    clear h30 HAny hres
    go_enter Tryz.func11, Tryz.ntmps11
    go_wp2_with fail
    go_loopw [10] (fun i wr => ∃ k : Nat, k ≤ m ∧ i = .int .i64 k ∧ AnyTo longX l k ∧ Below w.heap.size w wr) (fun i _ => m - (intOf i).toNat)
    case atStart => exact ⟨0, Nat.zero_le _, rfl, AnyTo.start _ _, Below.refl _ _⟩
    case round =>
      obtain ⟨k, hk, rfl, hE, hB⟩ := hrel
      have HBr := Lib.hid hB
      by_cases hlt : k < m
      · have hkl : k < l.length := by rw [← Hm.out]; exact hlt
        obtain ⟨b, off, e1, z9, z0, z1⟩ := rdM_at (HRd.out wr hB) hkl
        cases e1
        have hRd := hE.round hkl
        generalize l[k] = x at *
        obtain ⟨xk, xn, xv⟩ := x
        simp only at z9 z0 z1
        have hbx : longX ⟨xk, xn, xv⟩ = (decide (200 < xn.size) || decide (200 < xv.size)) := rfl
        rw [hbx] at hRd
        have HRnd := Lib.hid hRd
        have HBw := Lib.hid (bthen hB (balloc (Below.refl wr.heap.size wr) (.cells #[.int .i64 xk, .string xn, .string xv] 68)))
        clear hE hB hRd hbx
        by_cases hn2 : 200 < xn.size
        · have e1 : decide ((xn.size : Int) > 200) = true := decide_eq_true (by omega)
          have e2 : decide ((200 : Int) < (xn.size : Int)) = true := decide_eq_true (by omega)
          have HE : Hid (res = true) := Lib.hid (by rw [← HRes.out]; rcases HRnd.out with ⟨-, g⟩ | ⟨g, -⟩; exact g; rw [decide_eq_true hn2] at g; cases g)
          clear hn2
          go_wp2_with fail
          go_ret
          exact ⟨ret_bool HE.out.symm, HBw.out⟩
        · have e1 : decide ((xn.size : Int) > 200) = false := decide_eq_false (by omega)
          have e2 : decide ((200 : Int) < (xn.size : Int)) = false := decide_eq_false (by omega)
          by_cases hv2 : 200 < xv.size
          · have e3 : decide ((xv.size : Int) > 200) = true := decide_eq_true (by omega)
            have e4 : decide ((200 : Int) < (xv.size : Int)) = true := decide_eq_true (by omega)
            have HE : Hid (res = true) := Lib.hid (by rw [← HRes.out]; rcases HRnd.out with ⟨-, g⟩ | ⟨g, -⟩; exact g; rw [decide_eq_true hv2, Bool.or_true] at g; cases g)
            clear hn2 hv2
            go_wp2_with fail
            go_ret
            exact ⟨ret_bool HE.out.symm, HBw.out⟩
          · have e3 : decide ((xv.size : Int) > 200) = false := decide_eq_false (by omega)
            have e4 : decide ((200 : Int) < (xv.size : Int)) = false := decide_eq_false (by omega)
            have HE : Hid (AnyTo longX l (k + 1)) := Lib.hid (by rcases HRnd.out with ⟨g, -⟩ | ⟨-, g⟩; rw [decide_eq_false hn2, decide_eq_false hv2] at g; cases g; exact g)
            clear hn2 hv2
            go_wp2_with fail
            go_roundw
            case rel => exact ⟨k + 1, by omega, by go_num, HE.out, HBw.out⟩
            case measure => simp [intOf] <;> omega
      · have hEd := hE.done (by rw [← Hm.out]; exact hlt)
        have HE : Hid (res = false) := Lib.hid (by rw [← HRes.out, hEd])
        clear hE hB hEd
        go_wp2_with fail
        go_ret
        exact ⟨ret_bool HE.out.symm, HBr.out⟩
structure Tw (w0 : World) (xb yb : Nat) (I J : Ix) (X : List Nat) (a1 r1 h1 : Nat) (in1 : Pairs) (a2 r2 h2 : Nat) (in2 : Pairs) (w : World) : Prop where
  x : IxAt w X xb I a1 r1 h1 in1
  y : IxAt w X yb J a2 r2 h2 in2
  sep : ∀ k, blksI a1 r1 h1 in1 k → ¬ blksI a2 r2 h2 in2 k
  xX : xb ∉ X
  yX : yb ∉ X
  okx : IxOk I
  oky : IxOk J
  new : ∀ k ∈ X, w0.heap.size ≤ k
  below : Below w0.heap.size w0 w
def TwE (w0 : World) (xb yb : Nat) (I J : Ix) (w : World) : Prop := ∃ X a1 r1 h1 in1 a2 r2 h2 in2, Tw w0 xb yb I J X a1 r1 h1 in1 a2 r2 h2 in2 w
theorem TwE.swap {w0 w : World} {xb yb : Nat} {I J : Ix} (h : TwE w0 xb yb I J w) : TwE w0 yb xb J I w := by
  obtain ⟨X, a1, r1, h1, in1, a2, r2, h2, in2, h⟩ := h
  exact ⟨X, a2, r2, h2, in2, a1, r1, h1, in1, h.y, h.x, fun k hk hk2 => h.sep k hk2 hk, h.yX, h.xX, h.oky, h.okx, h.new, h.below⟩
theorem TwE.then {w0 w w2 : World} {xb yb : Nat} {I J : Ix} (h : TwE w0 xb yb I J w) (hb : Below w.heap.size w w2) : TwE w0 xb yb I J w2 := by
  obtain ⟨X, a1, r1, h1, in1, a2, r2, h2, in2, h⟩ := h
  exact ⟨X, a1, r1, h1, in1, a2, r2, h2, in2, h.x.below hb, h.y.below hb, h.sep, h.xX, h.yX, h.okx, h.oky, h.new, bthen h.below hb⟩
theorem TwE.below {w0 w : World} {xb yb : Nat} {I J : Ix} (h : TwE w0 xb yb I J w) : Below w0.heap.size w0 w := by
  obtain ⟨X, a1, r1, h1, in1, a2, r2, h2, in2, h⟩ := h
  exact h.below
theorem TwE.add {w0 w : World} {xb yb : Nat} {I J : Ix} (ref : Int) (v : Value) (lab : List Lb) (h : TwE w0 xb yb I J w) (hv : SlL w (fun k => k < w0.heap.size) v lab) (hz : SzL lab) (hT : Tabs w0) (h2 : 2 ≤ w0.heap.size) :
    Calls Tryz.prog 15 #[.pointer (some ⟨xb, 0, none⟩), .int .u64 ref, v] w fun e w' => e = .returned (.int .i64 (addErr I ref lab)) ∧ TwE w0 xb yb (if addErr I ref lab = 0 then addI I ref lab else I) J w' := by
  obtain ⟨X, a1, r1, h1, in1, a2, r2, h3, in2, h⟩ := h
  by_cases he : addErr I ref lab = 0
  · rw [he, if_pos rfl]
    refine (ix_addD ref v lab w h.x h.xX (fun k hk e => by have := h.new a1 (h.x.sub a1 (by simp)); omega) hv hz (hT.below h.below h2) (Nat.le_trans h2 h.below.size) he).mono ?_
    intro e w' hp
    obtain ⟨he2, X', inner', ht⟩ := XTurned.ofAdd hp
    have hno : ∀ k, k < w.heap.size → blksI a2 r2 h3 in2 k → ¬ blksI a1 r1 h1 inner' k := fun k hk hn hm => by
      rcases List.mem_append.1 hm with hm | hm
      · exact h.sep k (List.mem_append_left _ hm) hn
      · rcases ht.fine k hm with hm | hm
        · exact h.sep k (List.mem_append_right _ hm) hn
        · omega
    have hxl := (Array.getElem?_eq_some_iff.1 h.x.cells).1
    have hyl := (Array.getElem?_eq_some_iff.1 h.y.cells).1
    refine ⟨he2, X', a1, r1, h1, inner', a2, r2, h3, in2, ht.ix, h.y.move ht.apart.size (fun k hk hor => ht.apart.block k hk (fun hi => ?_)) (fun k hk hX => ht.more.out hk hX) ht.more.old (fun k hk => ht.ix.lt k hk), fun k hk hk2 => hno k (h.y.lt k (h.y.sub k hk2)) hk2 hk, fun hk => (ht.more.new xb hk).elim h.xX (fun g => by omega), fun hk => (ht.more.new yb hk).elim h.yX (fun g => by omega), ?_, h.oky, fun k hk => (ht.more.new k hk).elim (h.new k) (fun g => Nat.le_trans h.below.size g), apart_below h.below ht.apart (fun k hk => h.new k (h.x.sub k hk))⟩
    · rcases hor with g | g | g
      · exact g (h.x.sub k hi)
      · subst g; exact h.yX (h.x.sub _ hi)
      · exact h.sep k hi g
    · obtain ⟨g1, g2, g3, _⟩ := add_all10 he
      exact h.okx.add g1 g2 g3
  · rw [if_neg he]
    refine (ix_add_refused ref v lab w h.x hv hz (hT.below h.below h2) (Nat.le_trans h2 h.below.size) he).mono ?_
    rintro e w' ⟨he2, hb2⟩
    exact ⟨he2, TwE.then ⟨X, a1, r1, h1, in1, a2, r2, h3, in2, h⟩ hb2⟩
structure RotTo (l : List (List Lb)) (visit : Nat → Nat) (i : Nat) (I : Ix) : Prop where
  ok : IxOk I
  at_ : ∀ (r : Int) (lab : List Lb), mget I.all r = some lab ↔ ∃ j, j < i ∧ r = (visit j : Int) ∧ l[visit j]? = some lab ∧ rightF lab = 0
  len : I.all.length ≤ i
theorem RotTo.start (l : List (List Lb)) (visit : Nat → Nat) : RotTo l visit 0 ix0 := ⟨IxOk.start, fun r lab => ⟨fun h => by simp [ix0, mget] at h, fun ⟨j, hj, _⟩ => by omega⟩, by simp [ix0]⟩
theorem RotTo.next {l : List (List Lb)} {visit : Nat → Nat} {i : Nat} {I : Ix} (h : RotTo l visit i I) {lab : List Lb} (hl : l[visit i]? = some lab) (hi : i < 4096) (hinj : ∀ j, j < i → visit j ≠ visit i) (hd : ∀ a b : Nat, a ≠ b → ∀ x, l[a]? = some x → l[b]? ≠ some x) :
    addErr I (visit i : Int) lab = rightF lab ∧ RotTo l visit (i + 1) (if addErr I (visit i : Int) lab = 0 then addI I (visit i : Int) lab else I) := by
  by_cases hr : rightF lab = 0
  · have h1 : mget I.all (visit i : Int) = none := by
      cases e : mget I.all (visit i : Int) with
      | none => rfl
      | some x =>
        obtain ⟨j, hj, hv, _⟩ := (h.at_ _ _).1 e
        exact (hinj j hj (by omega)).elim
    have h2 : mget I.refs (printF lab) = none := by
      cases e : mget I.refs (printF lab) with
      | none => rfl
      | some r =>
        obtain ⟨l', g1, g2⟩ := h.ok.ref _ _ e
        have := print_inj (h.ok.right _ _ g1) hr g2
        subst this
        obtain ⟨j, hj, hv, hlj, _⟩ := (h.at_ _ _).1 g1
        exact (hd _ _ (hinj j hj) _ hlj hl).elim
    have he : addErr I (visit i : Int) lab = 0 := by
      unfold addErr
      rw [if_neg (by simpa using hr), if_neg (by rw [h1, h2]; simp), if_neg (by have := h.len; omega)]
    rw [he, if_pos rfl]
    refine ⟨hr.symm, h.ok.add hr h1 h2, fun r x => ?_, ?_⟩
    · have hg : mget (addI I (visit i : Int) lab).all r = if (visit i : Int) = r then some lab else mget I.all r := mget_put _ _ _ _
      rw [hg]
      by_cases e : (visit i : Int) = r
      · rw [if_pos e]
        constructor
        · intro hx
          cases hx
          exact ⟨i, by omega, e.symm, hl, hr⟩
        · rintro ⟨j, hj, hv, hlj, _⟩
          have hji : visit j = visit i := by omega
          rw [hji, hl] at hlj
          exact hlj
      · rw [if_neg e, h.at_]
        constructor
        · rintro ⟨j, hj, r2⟩; exact ⟨j, by omega, r2⟩
        · rintro ⟨j, hj, hv, r2⟩
          refine ⟨j, ?_, hv, r2⟩
          by_cases hji : j = i
          · subst hji; exact (e hv.symm).elim
          · omega
    · obtain ⟨_, _, _, g4, _⟩ := add_all10 he
      rw [g4, List.length_append]
      have := h.len
      simp; omega
  · have he : addErr I (visit i : Int) lab = rightF lab := by unfold addErr; rw [if_pos hr]
    rw [he, if_neg hr]
    refine ⟨rfl, h.ok, fun r x => ?_, Nat.le_succ_of_le h.len⟩
    rw [h.at_]
    constructor
    · rintro ⟨j, hj, r2⟩; exact ⟨j, by omega, r2⟩
    · rintro ⟨j, hj, hv, hlj, hx⟩
      refine ⟨j, ?_, hv, hlj, hx⟩
      by_cases hji : j = i
      · subst hji
        rw [hl] at hlj
        cases hlj
        exact (hr hx).elim
      · omega
end Go.Proofs.YtlhmdgaohonpbaaGreatDoor

namespace Go.Proofs.YtlhmdgaohonpbaaGreatDoor
open Go.RowKit Go.Proofs.YtlhmdgaohonpbaaGreatDoor.MapRaw Go.ChangeMaps
theorem right_sz {I : Ix} (hI : IxOk I) : ∀ p ∈ I.all, ∀ x ∈ p.2, x.v.size ≤ 1000000 := fun p hp x hx => by
  have h1 := (right_ok (hI.right p.1 p.2 (mget_of_mem hI.an hp))).2 x hx
  have h2 := h1.2.1
  unfold valuedF at h2
  simp only [Bool.and_eq_true, decide_eq_true_eq] at h2
  omega
def selR (I : Ix) (ml : List Mt) : List Int := if readyE ml = 0 then selectF I ml else []
def SelV (w : World) (sr : List Int) (re : Int) (e : Ending) (w' : World) : Prop := ∃ v, e = .returned (.tuple #[v, .int .i64 re]) ∧ SlU w' (fun k => w.heap.size ≤ k) v sr ∧ Below w.heap.size w w'
theorem SelPost.v {w w' : World} {I : Ix} {ml : List Mt} {e : Ending} (h : SelPost w I ml e w') : SelV w (selR I ml) (readyE ml) e w' := by
  unfold selR
  rcases h with ⟨h0, v, rfl, hs, hb⟩ | ⟨h0, rfl, hb⟩
  · exact ⟨v, by rw [h0], by rw [if_pos h0]; exact hs, hb⟩
  · exact ⟨_, rfl, by rw [if_neg h0]; exact Slc.nil _ _ _ _, hb⟩
theorem DSelPost.v {w w' : World} {I : Ix} (hI : IxOk I) {ml : List Mt} {e : Ending} (h : DSelPost w ml I.all e w') : SelV w (selR I ml) (readyE ml) e w' := by
  unfold selR
  rcases h with ⟨h0, v, rfl, hs, hb⟩ | ⟨h0, rfl, hb⟩
  · exact ⟨v, by rw [h0], by rw [if_pos h0, ← sel_doc hI]; exact hs, hb⟩
  · exact ⟨_, rfl, by rw [if_neg h0]; exact Slc.nil _ _ _ _, hb⟩
end Go.Proofs.YtlhmdgaohonpbaaGreatDoor

namespace Go.Proofs.YtlhmdgaohonpbaaGreatDoor
open Go.RowKit Go.Proofs.YtlhmdgaohonpbaaGreatDoor.MapRaw Go.ChangeMaps
theorem mt_len (x : Mt) : x.enc.length = 3 := rfl
theorem mt_one (x : Mt) : ∀ u ∈ x.enc, u.oneCell' = true := by
  intro u hu
  simp [Mt.enc] at hu
  rcases hu with rfl | rfl | rfl <;> rfl
theorem info_mt : (Tryz.prog.info? 68).map (fun i => (i.zero, i.size, i.bytes)) = some (some (.agg #[.int .i64 0, .string ⟨#[]⟩, .string ⟨#[]⟩]), 3, 40) := by kernel_rfl
theorem sel_strict {I : Ix} (hI : IxOk I) (ml : List Mt) : (selectF I ml).Pairwise (· < ·) := by
  have hn : (selectF I ml).Nodup := (sorted_perm _).nodup_iff.2 (selL_nodup hI.an ml)
  have hle := sorted_le (selL I ml)
  unfold selectF at hn ⊢
  exact (List.Pairwise.and hle hn).imp (fun h => by have := h.1; have := h.2; omega)
theorem sel_len (I : Ix) (ml : List Mt) : (selR I ml).length ≤ I.all.length := by
  unfold selR
  split
  · unfold selectF
    rw [sorted_len]
    unfold selL
    rw [List.length_map]
    exact List.length_filter_le _ _
  · exact Nat.zero_le _
theorem ready_split {l : List Mt} : readyE l = 0 ↔ l.length ≤ 16 ∧ (∀ x ∈ l, checkM x = 0) ∧ strictF l = true := by
  constructor
  · intro h
    have h1 := ready_all h
    refine ⟨?_, h1, ?_⟩
    · unfold readyE at h
      split at h
      · cases h
      · omega
    · unfold readyE at h
      split at h
      · cases h
      · rw [if_neg (by simp [err_zero l h1])] at h
        split at h
        · assumption
        · cases h
  · rintro ⟨h1, h2, h3⟩
    unfold readyE
    rw [if_neg (by omega), if_neg (by simp [err_zero l h2]), if_pos h3]
theorem ready_app {a b : List Mt} (ha : readyE a = 0) (hb : ∀ x ∈ b, checkM x = 0) (hl : a.length + b.length ≤ 16) : readyE (a ++ b) = 0 := by
  obtain ⟨h1, h2, h3⟩ := ready_split.1 ha
  refine ready_split.2 ⟨by rw [List.length_append]; exact hl, fun x hx => (List.mem_append.1 hx).elim (h2 x) (hb x), ?_⟩
  unfold strictF at h3 ⊢
  rw [List.any_append, h3]; rfl
theorem pass_app (a b : List Mt) (l : List Lb) : passL (a ++ b) l = (passL a l && passL b l) := by unfold passL; rw [List.all_append]
theorem sel_app {I : Ix} (hI : IxOk I) {a b : List Mt} (ha : readyE a = 0) (hb : readyE b = 0) (hl : a.length + b.length ≤ 16) : andF (selR I a) (selR I b) = selR I (a ++ b) := by
  have hab := ready_app ha (ready_all hb) hl
  unfold selR
  rw [if_pos ha, if_pos hb, if_pos hab]
  refine strict_ext ((set_strict _).filter _) (sel_strict hI _) (fun r => ?_)
  unfold andF
  rw [List.mem_filter, mem_set, decide_eq_true_eq, mem_select hI, mem_select hI, mem_select hI]
  constructor
  · rintro ⟨⟨l, h1, h2⟩, l', h3, h4⟩
    rw [h1] at h3; cases h3
    exact ⟨l, h1, by rw [pass_app, h2, h4]; rfl⟩
  · rintro ⟨l, h1, h2⟩
    rw [pass_app, Bool.and_eq_true] at h2
    exact ⟨⟨l, h1, h2.1⟩, l, h1, h2.2⟩
end Go.Proofs.YtlhmdgaohonpbaaGreatDoor

namespace Go.Proofs.YtlhmdgaohonpbaaGreatDoor
open Go.RowKit Go.Proofs.YtlhmdgaohonpbaaGreatDoor.MapRaw Go.ChangeMaps
set_option maxRecDepth 100000 in
set_option maxHeartbeats 8000000 in
theorem law_together {D D1 D2 D3 : Nat → Prop} (v : Value) (l : List OpV) (mv : Value) (ml : List Mt) (nv : Value) (nl : List Mt) (w : World) (hv : Slc 3 OpV.enc w D v l) (ho : OpOk w D1 l) (hm : Slc 3 Mt.enc w D2 mv ml) (hzm : ∀ x ∈ ml, SzM x) (hn : Slc 3 Mt.enc w D3 nv nl) (hzn : ∀ x ∈ nl, SzM x) (hT : Tabs w) (h2 : 2 ≤ w.heap.size) :
    Calls Tryz.prog 7 #[v, mv, nv] w fun e w' => e = .returned (.bool true) ∧ Below w.heap.size w w' := by
  have HLive := Lib.hid fun (W : World) (hW : Below w.heap.size w W) => law10_live W (hT.below hW h2) (Nat.le_trans h2 hW.size)
  have HMuch := Lib.hid fun (W : World) (hW : Below w.heap.size w W) => law_much v l W (hv.below hW) (fun o hoo => (ho o hoo).below hW)
  have HLaid := Lib.hid fun (hmu : muchB l = false) (W : World) (hW : Below w.heap.size w W) => law_laid v l w W hW hv ho hmu hT h2
  have HLongM := Lib.hid fun (W : World) (hW : Below w.heap.size w W) => law_long mv ml W (hm.below hW)
  have HLongN := Lib.hid fun (W : World) (hW : Below w.heap.size w W) => law_long nv nl W (hn.below hW)
  have HRm := Lib.hid fun (W : World) (hW : Below w.heap.size w W) => k7_right mv ml W (hm.below hW) hzm
  have HRn := Lib.hid fun (W : World) (hW : Below w.heap.size w W) => k7_right nv nl W (hn.below hW) hzn
  have HM := Lib.hid hm
  have HN := Lib.hid hn
  have HT := Lib.hid hT
  have HZm := Lib.hid hzm
  have HZn := Lib.hid hzn
  have HB0 := Lib.hid (Below.refl w.heap.size w)
  obtain ⟨A, c, rfl, p1, p2, -, -, p5⟩ := hv
  obtain ⟨Am, cm, rfl, -⟩ := hm
  obtain ⟨An, cn, rfl, -⟩ := hn
  obtain ⟨m, hm⟩ : ∃ m, m = l.length := ⟨_, rfl⟩
  rw [← hm] at HMuch HLaid ⊢
  clear ho p1 p2 p5 hT hzm hzn
  generalize hnm : ml.length = nm at *
  generalize hnn : nl.length = nn at *
  have HNm := Lib.hid hnm
  have HNn := Lib.hid hnn
  clear hnm hnn hm
  cases hmu : muchB l with
  | true =>
    rw [hmu] at HMuch
    clear hmu HLaid
    go_enter Tryz.func7, Tryz.ntmps7
    go_wp2_with fail
    refine (HLive.out w HB0.out).mono ?_
    rintro e w1 ⟨rfl, hb⟩
    have HB1 := Lib.hid (bthen HB0.out hb)
    clear hb
    go_wp2_with fail
    refine (HMuch.out w1 HB1.out).mono ?_
    rintro e w2 ⟨rfl, hb⟩
    have HB2 := Lib.hid (bthen HB1.out hb)
    clear hb
    go_wp2_with fail
    refine (HLive.out w2 HB2.out).mono ?_
    rintro e w3 ⟨rfl, hb⟩
    have HB3 := Lib.hid (bthen HB2.out hb)
    clear hb
    go_wp2_with fail
    go_ret
    exact ⟨rfl, HB3.out⟩
  | false =>
    rw [hmu] at HMuch
    have HLd := Lib.hid (HLaid.out hmu)
    unfold LaidPost at HLd
    have HM60 : Hid (l.length ≤ 60) := Lib.hid (much_small hmu).1
    clear hmu HLaid
    cases hlg : longB ml with
    | true =>
      rw [hlg] at HLongM
      clear hlg
      go_enter Tryz.func7, Tryz.ntmps7
      go_wp2_with fail
      refine (HLive.out w HB0.out).mono ?_
      rintro e w1 ⟨rfl, hb⟩
      have HB1 := Lib.hid (bthen HB0.out hb)
      clear hb
      go_wp2_with fail
      refine (HMuch.out w1 HB1.out).mono ?_
      rintro e w2 ⟨rfl, hb⟩
      have HB2 := Lib.hid (bthen HB1.out hb)
      clear hb
      go_wp2_with fail
      refine (HLongM.out w2 HB2.out).mono ?_
      rintro e w3 ⟨rfl, hb⟩
      have HB3 := Lib.hid (bthen HB2.out hb)
      clear hb
      go_wp2_with fail
      refine (HLive.out w3 HB3.out).mono ?_
      rintro e w4 ⟨rfl, hb⟩
      have HB4 := Lib.hid (bthen HB3.out hb)
      clear hb
      go_wp2_with fail
      go_ret
      exact ⟨rfl, HB4.out⟩
    | false =>
      rw [hlg] at HLongM
      clear hlg
      cases hlg : longB nl with
      | true =>
        rw [hlg] at HLongN
        clear hlg
        go_enter Tryz.func7, Tryz.ntmps7
        go_wp2_with fail
        refine (HLive.out w HB0.out).mono ?_
        rintro e w1 ⟨rfl, hb⟩
        have HB1 := Lib.hid (bthen HB0.out hb)
        clear hb
        go_wp2_with fail
        refine (HMuch.out w1 HB1.out).mono ?_
        rintro e w2 ⟨rfl, hb⟩
        have HB2 := Lib.hid (bthen HB1.out hb)
        clear hb
        go_wp2_with fail
        refine (HLongM.out w2 HB2.out).mono ?_
        rintro e w3 ⟨rfl, hb⟩
        have HB3 := Lib.hid (bthen HB2.out hb)
        clear hb
        go_wp2_with fail
        refine (HLongN.out w3 HB3.out).mono ?_
        rintro e w4 ⟨rfl, hb⟩
        have HB4 := Lib.hid (bthen HB3.out hb)
        clear hb
        go_wp2_with fail
        refine (HLive.out w4 HB4.out).mono ?_
        rintro e w5 ⟨rfl, hb⟩
        have HB5 := Lib.hid (bthen HB4.out hb)
        clear hb
        go_wp2_with fail
        go_ret
        exact ⟨rfl, HB5.out⟩
      | false =>
        rw [hlg] at HLongN
        clear hlg
        by_cases hrm : readyE ml = 0
        rotate_left
        · have ec : (readyE ml != 0) = true := by simp [hrm]
          generalize readyE ml = q at *
          clear hrm
          go_enter Tryz.func7, Tryz.ntmps7
          go_wp2_with fail
          refine (HLive.out w HB0.out).mono ?_
          rintro e w1 ⟨rfl, hb⟩
          have HB1 := Lib.hid (bthen HB0.out hb)
          clear hb
          go_wp2_with fail
          refine (HMuch.out w1 HB1.out).mono ?_
          rintro e w2 ⟨rfl, hb⟩
          have HB2 := Lib.hid (bthen HB1.out hb)
          clear hb
          go_wp2_with fail
          refine (HLongM.out w2 HB2.out).mono ?_
          rintro e w3 ⟨rfl, hb⟩
          have HB3 := Lib.hid (bthen HB2.out hb)
          clear hb
          go_wp2_with fail
          refine (HLongN.out w3 HB3.out).mono ?_
          rintro e w4 ⟨rfl, hb⟩
          have HB4 := Lib.hid (bthen HB3.out hb)
          clear hb
          go_wp2_with fail
          refine (HRm.out w4 HB4.out).mono ?_
          rintro e w5 ⟨rfl, hb⟩
          have HB5 := Lib.hid (bthen HB4.out hb)
          clear hb
          go_wp2_with fail
          refine (HLive.out w5 HB5.out).mono ?_
          rintro e w6 ⟨rfl, hb⟩
          have HB6 := Lib.hid (bthen HB5.out hb)
          clear hb
          go_wp2_with fail
          go_ret
          exact ⟨rfl, HB6.out⟩
        have ecrm : (readyE ml != 0) = false := by simp [hrm]
        have Hrm := Lib.hid hrm
        have Erm : Hid (∀ W : World, True) := Lib.hid (fun _ => trivial)
        clear hrm Erm
        by_cases hrn : readyE nl = 0
        rotate_left
        · have ec : (readyE nl != 0) = true := by simp [hrn]
          generalize readyE nl = q at *
          clear hrn
          go_enter Tryz.func7, Tryz.ntmps7
          go_wp2_with fail
          refine (HLive.out w HB0.out).mono ?_
          rintro e w1 ⟨rfl, hb⟩
          have HB1 := Lib.hid (bthen HB0.out hb)
          clear hb
          go_wp2_with fail
          refine (HMuch.out w1 HB1.out).mono ?_
          rintro e w2 ⟨rfl, hb⟩
          have HB2 := Lib.hid (bthen HB1.out hb)
          clear hb
          go_wp2_with fail
          refine (HLongM.out w2 HB2.out).mono ?_
          rintro e w3 ⟨rfl, hb⟩
          have HB3 := Lib.hid (bthen HB2.out hb)
          clear hb
          go_wp2_with fail
          refine (HLongN.out w3 HB3.out).mono ?_
          rintro e w4 ⟨rfl, hb⟩
          have HB4 := Lib.hid (bthen HB3.out hb)
          clear hb
          go_wp2_with fail
          refine (HRm.out w4 HB4.out).mono ?_
          rintro e w5 ⟨rfl, hb⟩
          have HB5 := Lib.hid (bthen HB4.out hb)
          clear hb
          go_wp2_with fail
          refine (HRn.out w5 HB5.out).mono ?_
          rintro e w6 ⟨rfl, hb⟩
          have HB6 := Lib.hid (bthen HB5.out hb)
          clear hb
          go_wp2_with fail
          refine (HLive.out w6 HB6.out).mono ?_
          rintro e w7 ⟨rfl, hb⟩
          have HB7 := Lib.hid (bthen HB6.out hb)
          clear hb
          go_wp2_with fail
          go_ret
          exact ⟨rfl, HB7.out⟩
        have ecrn : (readyE nl != 0) = false := by simp [hrn]
        have Hrn := Lib.hid hrn
        have Ern : Hid (∀ W : World, True) := Lib.hid (fun _ => trivial)
        clear hrn Ern
        have HNs : Hid (nm ≤ 30 ∧ nn ≤ 30) := Lib.hid (by
          have h3 := (ready_split.1 Hrm.out).1
          have h4 := (ready_split.1 Hrn.out).1
          have h5 := HNm.out
          have h6 := HNn.out
          omega)
        have hwr : IntKind.i64.wrap ((nm : Int) + (nn : Int)) = (nm : Int) + (nn : Int) := IntWalk.i64_in _ (by have := HNs.out; omega)
        by_cases hs : 16 < nm + nn
        · have d1 : decide ((nm : Int) + (nn : Int) > 16) = true := decide_eq_true (by omega)
          have d2 : decide ((16 : Int) < (nm : Int) + (nn : Int)) = true := decide_eq_true (by omega)
          generalize readyE ml = q at *
          generalize readyE nl = q2 at *
          clear hs
          go_enter Tryz.func7, Tryz.ntmps7
          go_wp2_with fail
          refine (HLive.out w HB0.out).mono ?_
          rintro e w1 ⟨rfl, hb⟩
          have HB1 := Lib.hid (bthen HB0.out hb)
          clear hb
          go_wp2_with fail
          refine (HMuch.out w1 HB1.out).mono ?_
          rintro e w2 ⟨rfl, hb⟩
          have HB2 := Lib.hid (bthen HB1.out hb)
          clear hb
          go_wp2_with fail
          refine (HLongM.out w2 HB2.out).mono ?_
          rintro e w3 ⟨rfl, hb⟩
          have HB3 := Lib.hid (bthen HB2.out hb)
          clear hb
          go_wp2_with fail
          refine (HLongN.out w3 HB3.out).mono ?_
          rintro e w4 ⟨rfl, hb⟩
          have HB4 := Lib.hid (bthen HB3.out hb)
          clear hb
          go_wp2_with fail
          refine (HRm.out w4 HB4.out).mono ?_
          rintro e w5 ⟨rfl, hb⟩
          have HB5 := Lib.hid (bthen HB4.out hb)
          clear hb
          go_wp2_with fail
          refine (HRn.out w5 HB5.out).mono ?_
          rintro e w6 ⟨rfl, hb⟩
          have HB6 := Lib.hid (bthen HB5.out hb)
          clear hb
          go_wp2_with fail
          refine (HLive.out w6 HB6.out).mono ?_
          rintro e w7 ⟨rfl, hb⟩
          have HB7 := Lib.hid (bthen HB6.out hb)
          clear hb
          go_wp2_with fail
          go_ret
          exact ⟨rfl, HB7.out⟩
        · have d1 : decide ((nm : Int) + (nn : Int) > 16) = false := decide_eq_false (by omega)
          have d2 : decide ((16 : Int) < (nm : Int) + (nn : Int)) = false := decide_eq_false (by omega)
          have HRs : Hid (readyE (ml ++ nl) = 0) := Lib.hid (ready_app Hrm.out (ready_all Hrn.out) (by rw [HNm.out, HNn.out]; omega))
          have HAnd : Hid (∀ I, IxOk I → andF (selR I ml) (selR I nl) = selR I (ml ++ nl)) := Lib.hid (fun I hI => sel_app hI Hrm.out Hrn.out (by rw [HNm.out, HNn.out]; omega))
          have HZs : Hid (∀ x ∈ ml ++ nl, SzM x) := Lib.hid (fun x hx => (List.mem_append.1 hx).elim (HZm.out x) (HZn.out x))
          have HRme := Hrm.out
          have HRne := Hrn.out
          rw [HRme] at HRm ecrm
          rw [HRne] at HRn ecrn
          clear hs HRme HRne
          go_enter Tryz.func7, Tryz.ntmps7
          go_wp2_with fail
          refine (HLive.out w HB0.out).mono ?_
          rintro e w1 ⟨rfl, hb⟩
          have HB1 := Lib.hid (bthen HB0.out hb)
          clear hb
          go_wp2_with fail
          refine (HMuch.out w1 HB1.out).mono ?_
          rintro e w2 ⟨rfl, hb⟩
          have HB2 := Lib.hid (bthen HB1.out hb)
          clear hb
          go_wp2_with fail
          refine (HLongM.out w2 HB2.out).mono ?_
          rintro e w3 ⟨rfl, hb⟩
          have HB3 := Lib.hid (bthen HB2.out hb)
          clear hb
          go_wp2_with fail
          refine (HLongN.out w3 HB3.out).mono ?_
          rintro e w4 ⟨rfl, hb⟩
          have HB4 := Lib.hid (bthen HB3.out hb)
          clear hb
          go_wp2_with fail
          refine (HRm.out w4 HB4.out).mono ?_
          rintro e w5 ⟨rfl, hb⟩
          have HB5 := Lib.hid (bthen HB4.out hb)
          clear hb
          go_wp2_with fail
          refine (HRn.out w5 HB5.out).mono ?_
          rintro e w6 ⟨rfl, hb⟩
          have HB6 := Lib.hid (bthen HB5.out hb)
          clear hb
          go_wp2_with fail
          refine (HLd.out w6 HB6.out).mono ?_
          rintro e w7 ⟨xb, yb, rfl, hBo, hln⟩
          obtain ⟨X, ab, rb, hb, inner, vy, ls, hBo, hkeys⟩ := hBo
          generalize opsI l ix0 = I at *
          have HIl : Hid (I.all.length ≤ 60) := Lib.hid (by have := HM60.out; omega)
          have HBo7 := Lib.hid hBo
          have HSel : Hid (∀ (W : World) (Dq : Nat → Prop) (qv : Value) (ql : List Mt), Bo w xb yb [] I X ab rb hb inner vy ls W → Slc 3 Mt.enc W Dq qv ql → (∀ x ∈ ql, SzM x) → Calls Tryz.prog 17 #[.pointer (some ⟨xb, 0, none⟩), qv] W (SelV W (selR I ql) (readyE ql))) := Lib.hid (fun W Dq qv ql hW hq hzq => (ix_select qv ql W hW.ix hW.ok (by have := HIl.out; omega) (right_sz hW.ok) hq hzq (HT.out.below hW.below h2) (Nat.le_trans h2 hW.below.size)).mono (fun e w' h => SelPost.v h))
          have HSm := Lib.hid (HSel.out w7 _ _ ml HBo7.out (HM.out.below HBo7.out.below) HZm.out)
          have HLenM := Lib.hid (sel_len I ml)
          have HLenN := Lib.hid (sel_len I nl)
          have HAi := Lib.hid (HAnd.out I hBo.ok)
          rw [Hrm.out] at HSm
          have HSn : Hid (∀ (W : World), Bo w xb yb [] I X ab rb hb inner vy ls W → Calls Tryz.prog 17 #[.pointer (some ⟨xb, 0, none⟩), .slice An nn cn] W (SelV W (selR I nl) 0)) := Lib.hid (fun W hW => by have h3 := HSel.out W _ _ nl hW (HN.out.below hW.below) HZn.out; rw [Hrn.out] at h3; exact h3)
          have HSs : Hid (∀ (W : World) (qv : Value) (Dq : Nat → Prop), Bo w xb yb [] I X ab rb hb inner vy ls W → Slc 3 Mt.enc W Dq qv (ml ++ nl) → Calls Tryz.prog 17 #[.pointer (some ⟨xb, 0, none⟩), qv] W (SelV W (selR I (ml ++ nl)) 0)) := Lib.hid (fun W qv Dq hW hq => by have h3 := HSel.out W _ qv (ml ++ nl) hW hq HZs.out; rw [HRs.out] at h3; exact h3)
          generalize selR I ml = sm at *
          generalize selR I nl = sn at *
          generalize selR I (ml ++ nl) = sb at *
          clear hBo hkeys hln HSel HAnd
          go_wp2_with fail
          refine HSm.out.mono ?_
          rintro e w8 ⟨v8, rfl, hs8, hb8⟩
          obtain ⟨A8, c8, rfl, -⟩ := id hs8
          have HV8 := Lib.hid hs8
          have HBo8 := Lib.hid (HBo7.out.then hb8)
          clear hs8 hb8
          go_wp2_with fail
          refine (HSn.out w8 HBo8.out).mono ?_
          rintro e w9 ⟨v9, rfl, hs9, hb9⟩
          obtain ⟨A9, c9, rfl, -⟩ := id hs9
          have HV9 := Lib.hid hs9
          have HV8' := Lib.hid (HV8.out.below hb9)
          have HBo9 := Lib.hid (HBo8.out.then hb9)
          clear hs9 hb9
          have HBa : Hid (Below w9.heap.size w9 (w9.alloc (.cells #[] 68))) := Lib.hid (balloc (Below.refl _ _) _)
          have HSrM := Lib.hid ((HM.out.below (bthen HBo9.out.below HBa.out)).src mt_len mt_one (by decide))
          have HO := Lib.hid (World.ownsRow_lit (base := w9.heap.size) (e := 68) (size := 3) w9 #[] 0 (Nat.le_refl _) (by decide) rfl)
          rw [HNm.out] at HSrM
          go_wp2_with (at_builtin; refine wpList_app (w0 := w9) w9.heap.size rfl _ _ 23 68 _ 3 40 nm (ml.flatMap Mt.enc) rfl Tryz.underlying23 info_mt rfl (by decide) (by decide) (.slice (some ⟨w9.heap.size, 0, none⟩) 0 0) 0 [] ?hs1 ?hx1 HO.out HBa.out (by simp) (by have := HNs.out; omega) ?_)
          try (case hs1 => rfl)
          case hx1 => exact HSrM.out
          intro v10 w10 hO10 hB10 hg10 hat10
          try simp only [Nat.zero_add, List.nil_append] at hO10
          have HSrN := Lib.hid ((HN.out.below (bthen HBo9.out.below hB10)).src mt_len mt_one (by decide))
          rw [HNn.out] at HSrN
          have HO10 := Lib.hid hO10
          have HB10 := Lib.hid hB10
          obtain ⟨A10, c10, rfl⟩ := own_slice hO10
          clear hO10 hB10 hg10 hat10 HO
          go_wp2_with (at_builtin; refine wpList_app (w0 := w9) w9.heap.size rfl _ _ 23 68 _ 3 40 nn (nl.flatMap Mt.enc) rfl Tryz.underlying23 info_mt rfl (by decide) (by decide) (.slice A10 nm c10) nm (ml.flatMap Mt.enc) ?hs2 ?hx2 HO10.out HB10.out HB10.out.size (by have := HNs.out; omega) ?_)
          try (case hs2 => rfl)
          case hx2 => exact HSrN.out
          intro v11 w11 hO11 hB11 hg11 hat11
          have hq11 : Slc 3 Mt.enc w11 (fun k => w9.heap.size ≤ k) v11 (ml ++ nl) := own_slc (enc := Mt.enc) mt_len (by rw [List.length_append, HNm.out, HNn.out]) (by rw [List.flatMap_append]; exact hO11)
          have HBo11 := Lib.hid (HBo9.out.then hB11)
          have HV8'' := Lib.hid (HV8'.out.below hB11)
          have HV9'' := Lib.hid (HV9.out.below hB11)
          have HCs := Lib.hid (HSs.out w11 v11 _ HBo11.out hq11)
          obtain ⟨A11, c11, rfl⟩ := own_slice hO11
          clear hO11 hB11 hg11 hat11 hq11
          go_wp2_with fail
          refine HCs.out.mono ?_
          rintro e w12 ⟨v12, rfl, hs12, hb12⟩
          obtain ⟨A12, c12, rfl, -⟩ := id hs12
          have HV12 := Lib.hid hs12
          have HBo12 := Lib.hid (HBo11.out.then hb12)
          have hand := post_and _ _ sm sn w12 (HV8''.out.below hb12) (by have := HLenM.out; have := HIl.out; omega) (HV9''.out.below hb12) (by have := HLenN.out; have := HIl.out; omega)
          unfold OwnPost at hand
          rw [HAi.out] at hand
          have HAnc := Lib.hid hand
          clear hs12 hb12 hand
          go_wp2_with fail
          refine HAnc.out.mono ?_
          rintro e w13 ⟨v13, rfl, hO13, hb13⟩
          have HBo13 := Lib.hid (HBo12.out.then hb13)
          have hnu := law_numbers _ _ _ _ w13 (own_slc encU_len rfl hO13) (HV12.out.below hb13)
          simp only [decide_true] at hnu
          have HNu := Lib.hid hnu
          obtain ⟨A13, c13, rfl⟩ := own_slice hO13
          clear hO13 hb13 hnu
          go_wp2_with fail
          refine HNu.out.mono ?_
          rintro e w14 ⟨rfl, hb14⟩
          have HB14 := Lib.hid (HBo13.out.then hb14).below
          clear hb14
          go_wp2_with fail
          go_ret
          exact ⟨rfl, HB14.out⟩
end Go.Proofs.YtlhmdgaohonpbaaGreatDoor
