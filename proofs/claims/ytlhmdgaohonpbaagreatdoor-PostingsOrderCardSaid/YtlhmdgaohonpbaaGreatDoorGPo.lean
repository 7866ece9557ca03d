import Derived.Test.YtlhmdgaohonpbaaGreatDoorGDz
import Derived.Test.YtlhmdgaohonpbaaGreatDoorGPi
import Derived.Test.YtlhmdgaohonpbaaGreatDoorGNmC
import Derived.Test.YtlhmdgaohonpbaaGreatDoorGRvB
import Derived.Test.YtlhmdgaohonpbaaGreatDoorGCd
set_option linter.unusedSimpArgs false
set_option linter.unusedVariables false
set_option linter.unusedSectionVars false
/- the law's long; two indices of the program's beside each other; series that were added in some order. -/
namespace Go.Proofs.YtlhmdgaohonpbaaGreatDoor
open Go.RowKit Go.Proofs.YtlhmdgaohonpbaaGreatDoor.MapRaw Go.ChangeMaps

def longX (x : Mt) : Bool := decide (200 < x.n.size) || decide (200 < x.v.size)
def longB (l : List Mt) : Bool := decide (30 < l.length) || l.any longX
theorem long_small {l : List Mt} (h : longB l = false) : l.length ≤ 30 ∧ ∀ x ∈ l, x.n.size ≤ 200 ∧ x.v.size ≤ 200 := by
  unfold longB at h
  rw [Bool.or_eq_false_iff] at h
  refine ⟨by have := of_decide_eq_false h.1; omega, fun x hx => ?_⟩
  have h2 := (List.any_eq_false.1 h.2) x hx
  unfold longX at h2
  simp at h2
  omega
set_option maxRecDepth 100000 in
set_option maxHeartbeats 1000000 in
theorem law_long {D : Nat → Prop} (v : Value) (l : List Mt) (w : World) (hv : Slc 3 Mt.enc w D v l) :
    Calls Tryz.prog 11 #[v] w fun e w' => e = .returned (.bool (longB l)) ∧ Below w.heap.size w w' := by
  obtain ⟨A, c, rfl, p1, p2, -, -, p5⟩ := hv
  have HRd := Lib.hid fun (W : World) (hW : Below w.heap.size w W) => Rd.below p5 hW
  have hm9 : l.length ≤ 9223372036854775807 := by simp only [maxLen] at p2; omega
  obtain ⟨m, hm⟩ : ∃ m, m = l.length := ⟨_, rfl⟩
  have Hm := Lib.hid hm
  unfold longB
  rw [← hm] at hm9 ⊢
  clear p1 p2 p5 hm
  by_cases h30 : 30 < m
  · have hd : decide ((m : Int) > 30) = true := decide_eq_true (by omega)
    have hd' : decide ((30 : Int) < (m : Int)) = true := decide_eq_true (by omega)
    rw [decide_eq_true h30, Bool.true_or]
    clear h30
    go_enter Tryz.func11, Tryz.ntmps11
    go_wp2_with fail
    go_ret
    exact ⟨rfl, Below.refl _ _⟩
  · have hd : decide ((m : Int) > 30) = false := decide_eq_false (by omega)
    have hd' : decide ((30 : Int) < (m : Int)) = false := decide_eq_false (by omega)
    rw [decide_eq_false h30, Bool.false_or]
    have HAny : Hid (l.any longX = l.any longX) := Lib.hid rfl
    generalize hres : l.any longX = res at *
    have HRes := Lib.hid hres
    clear h30 HAny hres
    go_enter Tryz.func11, Tryz.ntmps11
    go_wp2_with fail
    go_loopw [10] (fun i wr => ∃ k : Nat, k ≤ m ∧ i = .int .i64 k ∧ AnyTo longX l k ∧ Below w.heap.size w wr) (fun i _ => m - (intOf i).toNat)
    case atStart => exact ⟨0, Nat.zero_le _, rfl, AnyTo.start _ _, Below.refl _ _⟩
    case round =>
      obtain ⟨k, hk, rfl, hE, hB⟩ := hrel
      have HBr := Lib.hid hB
      by_cases hlt : k < m
      · have hkl : k < l.length := by rw [← Hm.out]; exact hlt
        obtain ⟨b, off, e1, z9, z0, z1⟩ := rdM_at (HRd.out wr hB) hkl
        cases e1
        have hRd := hE.round hkl
        generalize l[k] = x at *
        obtain ⟨xk, xn, xv⟩ := x
        simp only at z9 z0 z1
        have hbx : longX ⟨xk, xn, xv⟩ = (decide (200 < xn.size) || decide (200 < xv.size)) := rfl
        rw [hbx] at hRd
        have HRnd := Lib.hid hRd
        have HBw := Lib.hid (bthen hB (balloc (Below.refl wr.heap.size wr) (.cells #[.int .i64 xk, .string xn, .string xv] 68)))
        clear hE hB hRd hbx
        by_cases hn2 : 200 < xn.size
        · have e1 : decide ((xn.size : Int) > 200) = true := decide_eq_true (by omega)
          have e2 : decide ((200 : Int) < (xn.size : Int)) = true := decide_eq_true (by omega)
          have HE : Hid (res = true) := Lib.hid (by rw [← HRes.out]; rcases HRnd.out with ⟨-, g⟩ | ⟨g, -⟩; exact g; rw [decide_eq_true hn2] at g; cases g)
          clear hn2
          go_wp2_with fail
          go_ret
          exact ⟨ret_bool HE.out.symm, HBw.out⟩
        · have e1 : decide ((xn.size : Int) > 200) = false := decide_eq_false (by omega)
          have e2 : decide ((200 : Int) < (xn.size : Int)) = false := decide_eq_false (by omega)
          by_cases hv2 : 200 < xv.size
          · have e3 : decide ((xv.size : Int) > 200) = true := decide_eq_true (by omega)
            have e4 : decide ((200 : Int) < (xv.size : Int)) = true := decide_eq_true (by omega)
            have HE : Hid (res = true) := Lib.hid (by rw [← HRes.out]; rcases HRnd.out with ⟨-, g⟩ | ⟨g, -⟩; exact g; rw [decide_eq_true hv2, Bool.or_true] at g; cases g)
            clear hn2 hv2
            go_wp2_with fail
            go_ret
            exact ⟨ret_bool HE.out.symm, HBw.out⟩
          · have e3 : decide ((xv.size : Int) > 200) = false := decide_eq_false (by omega)
            have e4 : decide ((200 : Int) < (xv.size : Int)) = false := decide_eq_false (by omega)
            have HE : Hid (AnyTo longX l (k + 1)) := Lib.hid (by rcases HRnd.out with ⟨g, -⟩ | ⟨-, g⟩; rw [decide_eq_false hn2, decide_eq_false hv2] at g; cases g; exact g)
            clear hn2 hv2
            go_wp2_with fail
            go_roundw
            case rel => exact ⟨k + 1, by omega, by go_num, HE.out, HBw.out⟩
            case measure => simp [intOf] <;> omega
      · have hEd := hE.done (by rw [← Hm.out]; exact hlt)
        have HE : Hid (res = false) := Lib.hid (by rw [← HRes.out, hEd])
        clear hE hB hEd
        go_wp2_with fail
        go_ret
        exact ⟨ret_bool HE.out.symm, HBr.out⟩
/-! ### two indices -/
structure Tw (w0 : World) (xb yb : Nat) (I J : Ix) (X : List Nat) (a1 r1 h1 : Nat) (in1 : Pairs) (a2 r2 h2 : Nat) (in2 : Pairs) (w : World) : Prop where
  x : IxAt w X xb I a1 r1 h1 in1
  y : IxAt w X yb J a2 r2 h2 in2
  sep : ∀ k, blksI a1 r1 h1 in1 k → ¬ blksI a2 r2 h2 in2 k
  xX : xb ∉ X
  yX : yb ∉ X
  okx : IxOk I
  oky : IxOk J
  new : ∀ k ∈ X, w0.heap.size ≤ k
  below : Below w0.heap.size w0 w
def TwE (w0 : World) (xb yb : Nat) (I J : Ix) (w : World) : Prop := ∃ X a1 r1 h1 in1 a2 r2 h2 in2, Tw w0 xb yb I J X a1 r1 h1 in1 a2 r2 h2 in2 w
theorem TwE.swap {w0 w : World} {xb yb : Nat} {I J : Ix} (h : TwE w0 xb yb I J w) : TwE w0 yb xb J I w := by
  obtain ⟨X, a1, r1, h1, in1, a2, r2, h2, in2, h⟩ := h
  exact ⟨X, a2, r2, h2, in2, a1, r1, h1, in1, h.y, h.x, fun k hk hk2 => h.sep k hk2 hk, h.yX, h.xX, h.oky, h.okx, h.new, h.below⟩
theorem TwE.then {w0 w w2 : World} {xb yb : Nat} {I J : Ix} (h : TwE w0 xb yb I J w) (hb : Below w.heap.size w w2) : TwE w0 xb yb I J w2 := by
  obtain ⟨X, a1, r1, h1, in1, a2, r2, h2, in2, h⟩ := h
  exact ⟨X, a1, r1, h1, in1, a2, r2, h2, in2, h.x.below hb, h.y.below hb, h.sep, h.xX, h.yX, h.okx, h.oky, h.new, bthen h.below hb⟩
theorem TwE.below {w0 w : World} {xb yb : Nat} {I J : Ix} (h : TwE w0 xb yb I J w) : Below w0.heap.size w0 w := by
  obtain ⟨X, a1, r1, h1, in1, a2, r2, h2, in2, h⟩ := h
  exact h.below
theorem TwE.add {w0 w : World} {xb yb : Nat} {I J : Ix} (ref : Int) (v : Value) (lab : List Lb) (h : TwE w0 xb yb I J w) (hv : SlL w (fun k => k < w0.heap.size) v lab) (hz : SzL lab) (hT : Tabs w0) (h2 : 2 ≤ w0.heap.size) :
    Calls Tryz.prog 15 #[.pointer (some ⟨xb, 0, none⟩), .int .u64 ref, v] w fun e w' => e = .returned (.int .i64 (addErr I ref lab)) ∧ TwE w0 xb yb (if addErr I ref lab = 0 then addI I ref lab else I) J w' := by
  obtain ⟨X, a1, r1, h1, in1, a2, r2, h3, in2, h⟩ := h
  by_cases he : addErr I ref lab = 0
  · rw [he, if_pos rfl]
    refine (ix_addD ref v lab w h.x h.xX (fun k hk e => by have := h.new a1 (h.x.sub a1 (by simp)); omega) hv hz (hT.below h.below h2) (Nat.le_trans h2 h.below.size) he).mono ?_
    intro e w' hp
    obtain ⟨he2, X', inner', ht⟩ := XTurned.ofAdd hp
    have hno : ∀ k, k < w.heap.size → blksI a2 r2 h3 in2 k → ¬ blksI a1 r1 h1 inner' k := fun k hk hn hm => by
      rcases List.mem_append.1 hm with hm | hm
      · exact h.sep k (List.mem_append_left _ hm) hn
      · rcases ht.fine k hm with hm | hm
        · exact h.sep k (List.mem_append_right _ hm) hn
        · omega
    have hxl := (Array.getElem?_eq_some_iff.1 h.x.cells).1
    have hyl := (Array.getElem?_eq_some_iff.1 h.y.cells).1
    refine ⟨he2, X', a1, r1, h1, inner', a2, r2, h3, in2, ht.ix, h.y.move ht.apart.size (fun k hk hor => ht.apart.block k hk (fun hi => ?_)) (fun k hk hX => ht.more.out hk hX) ht.more.old (fun k hk => ht.ix.lt k hk), fun k hk hk2 => hno k (h.y.lt k (h.y.sub k hk2)) hk2 hk, fun hk => (ht.more.new xb hk).elim h.xX (fun g => by omega), fun hk => (ht.more.new yb hk).elim h.yX (fun g => by omega), ?_, h.oky, fun k hk => (ht.more.new k hk).elim (h.new k) (fun g => Nat.le_trans h.below.size g), apart_below h.below ht.apart (fun k hk => h.new k (h.x.sub k hk))⟩
    · rcases hor with g | g | g
      · exact g (h.x.sub k hi)
      · subst g; exact h.yX (h.x.sub _ hi)
      · exact h.sep k hi g
    · obtain ⟨g1, g2, g3, _⟩ := add_all10 he
      exact h.okx.add g1 g2 g3
  · rw [if_neg he]
    refine (ix_add_refused ref v lab w h.x hv hz (hT.below h.below h2) (Nat.le_trans h2 h.below.size) he).mono ?_
    rintro e w' ⟨he2, hb2⟩
    exact ⟨he2, TwE.then ⟨X, a1, r1, h1, in1, a2, r2, h3, in2, h⟩ hb2⟩
theorem twe_start {w0 w w1 w2 : World} (hb0 : Below w0.heap.size w0 w) {e e2 : Ending} (h : AddNewPost w e w1) (h2 : AddNewPost w1 e2 w2) : ∃ xb yb, e = .returned (.pointer (some ⟨xb, 0, none⟩)) ∧ e2 = .returned (.pointer (some ⟨yb, 0, none⟩)) ∧ TwE w0 xb yb ix0 ix0 w2 := by
  obtain ⟨xb, ab, rb, hb, he, hix, ⟨n1, n2, n3, n4, n5, n6, n7, n8⟩, hb1⟩ := h
  obtain ⟨yb, ab', rb', hb', he', hix', ⟨m1, m2, m3, m4, m5, m6, m7, m8⟩, hb2⟩ := h2
  have hs0 := hb0.size
  have hm : MoreX w1 [ab, rb, hb] ([ab', rb', hb'] ++ [ab, rb, hb]) := ⟨fun k hk => List.mem_append_right _ hk, fun k hk => (List.mem_append.1 hk).elim (fun e => .inr (by simp at e; rcases e with rfl | rfl | rfl <;> assumption)) .inl⟩
  have hlt : ∀ k ∈ [ab', rb', hb'] ++ [ab, rb, hb], k < w2.heap.size := fun k hk => (List.mem_append.1 hk).elim (fun e => hix'.lt k e) (fun e => Nat.lt_of_lt_of_le (hix.lt k e) hb2.size)
  have hl1 := hix.lt
  refine ⟨xb, yb, he, he', [ab', rb', hb'] ++ [ab, rb, hb], ab, rb, hb, [], ab', rb', hb', [], hix.move hb2.size (fun k hk _ => hb2.block k hk) (fun k hk hX => hm.out hk hX) hm.old hlt, ?_, ?_, ?_, ?_, IxOk.start, IxOk.start, ?_, bthen hb0 (bthen hb1 hb2)⟩
  · refine ⟨hix'.cells, hix'.all.move rfl (fun p hp => ?_), hix'.refs, hix'.has, fun k hk => List.mem_append_left _ (hix'.sub k hk), hix'.nd, hlt⟩
    simp at hp
  · intro k hk hk2
    have a1 := hl1 k (hix.sub k hk)
    have a2 : w1.heap.size ≤ k := by
      have := hix'.sub k hk2
      simp at this
      rcases this with rfl | rfl | rfl <;> assumption
    omega
  · intro hk
    rcases List.mem_append.1 hk with hk | hk
    · have a2 : w1.heap.size ≤ xb := by simp at hk; rcases hk with rfl | rfl | rfl <;> assumption
      omega
    · simp at hk; omega
  · intro hk
    rcases List.mem_append.1 hk with hk | hk
    · simp at hk; omega
    · have := hl1 yb hk; omega
  · intro k hk
    have := hb1.size
    rcases List.mem_append.1 hk with hk | hk
    · simp at hk; rcases hk with rfl | rfl | rfl <;> omega
    · simp at hk; rcases hk with rfl | rfl | rfl <;> omega
/-! ### plain: series added in some order -/
structure RotTo (l : List (List Lb)) (visit : Nat → Nat) (i : Nat) (I : Ix) : Prop where
  ok : IxOk I
  at_ : ∀ (r : Int) (lab : List Lb), mget I.all r = some lab ↔ ∃ j, j < i ∧ r = (visit j : Int) ∧ l[visit j]? = some lab ∧ rightF lab = 0
  len : I.all.length ≤ i
theorem RotTo.start (l : List (List Lb)) (visit : Nat → Nat) : RotTo l visit 0 ix0 := ⟨IxOk.start, fun r lab => ⟨fun h => by simp [ix0, mget] at h, fun ⟨j, hj, _⟩ => by omega⟩, by simp [ix0]⟩
theorem RotTo.next {l : List (List Lb)} {visit : Nat → Nat} {i : Nat} {I : Ix} (h : RotTo l visit i I) {lab : List Lb} (hl : l[visit i]? = some lab) (hi : i < 4096) (hinj : ∀ j, j < i → visit j ≠ visit i) (hd : ∀ a b : Nat, a ≠ b → ∀ x, l[a]? = some x → l[b]? ≠ some x) :
    addErr I (visit i : Int) lab = rightF lab ∧ RotTo l visit (i + 1) (if addErr I (visit i : Int) lab = 0 then addI I (visit i : Int) lab else I) := by
  by_cases hr : rightF lab = 0
  · have h1 : mget I.all (visit i : Int) = none := by
      cases e : mget I.all (visit i : Int) with
      | none => rfl
      | some x =>
        obtain ⟨j, hj, hv, _⟩ := (h.at_ _ _).1 e
        exact (hinj j hj (by omega)).elim
    have h2 : mget I.refs (printF lab) = none := by
      cases e : mget I.refs (printF lab) with
      | none => rfl
      | some r =>
        obtain ⟨l', g1, g2⟩ := h.ok.ref _ _ e
        have := print_inj (h.ok.right _ _ g1) hr g2
        subst this
        obtain ⟨j, hj, hv, hlj, _⟩ := (h.at_ _ _).1 g1
        exact (hd _ _ (hinj j hj) _ hlj hl).elim
    have he : addErr I (visit i : Int) lab = 0 := by
      unfold addErr
      rw [if_neg (by simpa using hr), if_neg (by rw [h1, h2]; simp), if_neg (by have := h.len; omega)]
    rw [he, if_pos rfl]
    refine ⟨hr.symm, h.ok.add hr h1 h2, fun r x => ?_, ?_⟩
    · have hg : mget (addI I (visit i : Int) lab).all r = if (visit i : Int) = r then some lab else mget I.all r := mget_put _ _ _ _
      rw [hg]
      by_cases e : (visit i : Int) = r
      · rw [if_pos e]
        constructor
        · intro hx
          cases hx
          exact ⟨i, by omega, e.symm, hl, hr⟩
        · rintro ⟨j, hj, hv, hlj, _⟩
          have hji : visit j = visit i := by omega
          rw [hji, hl] at hlj
          exact hlj
      · rw [if_neg e, h.at_]
        constructor
        · rintro ⟨j, hj, r2⟩; exact ⟨j, by omega, r2⟩
        · rintro ⟨j, hj, hv, r2⟩
          refine ⟨j, ?_, hv, r2⟩
          by_cases hji : j = i
          · subst hji; exact (e hv.symm).elim
          · omega
    · obtain ⟨_, _, _, g4, _⟩ := add_all10 he
      rw [g4, List.length_append]
      have := h.len
      simp; omega
  · have he : addErr I (visit i : Int) lab = rightF lab := by unfold addErr; rw [if_pos hr]
    rw [he, if_neg hr]
    refine ⟨rfl, h.ok, fun r x => ?_, Nat.le_succ_of_le h.len⟩
    rw [h.at_]
    constructor
    · rintro ⟨j, hj, r2⟩; exact ⟨j, by omega, r2⟩
    · rintro ⟨j, hj, hv, hlj, hx⟩
      refine ⟨j, ?_, hv, hlj, hx⟩
      by_cases hji : j = i
      · subst hji
        rw [hl] at hlj
        cases hlj
        exact (hr hx).elim
      · omega
theorem rot_same {l : List (List Lb)} {f g : Nat → Nat} {I J : Ix} (hf : RotTo l f l.length I) (hg : RotTo l g l.length J) (h1 : ∀ k, k < l.length → ∃ j, j < l.length ∧ f j = k) (h2 : ∀ k, k < l.length → ∃ j, j < l.length ∧ g j = k) : ∀ r, mget I.all r = mget J.all r := by
  have key : ∀ {f g : Nat → Nat} {I J : Ix}, RotTo l f l.length I → RotTo l g l.length J → (∀ k, k < l.length → ∃ j, j < l.length ∧ g j = k) → ∀ r x, mget I.all r = some x → mget J.all r = some x := by
    intro f g I J hf hg h2 r x hx
    obtain ⟨j, hj, hv, hl, hr⟩ := (hf.at_ r x).1 hx
    have hlt : f j < l.length := (List.getElem?_eq_some_iff.1 hl).1
    obtain ⟨j2, hj2, e⟩ := h2 (f j) hlt
    exact (hg.at_ r x).2 ⟨j2, hj2, by rw [e]; exact hv, by rw [e]; exact hl, hr⟩
  intro r
  cases hi : mget I.all r with
  | some x => exact (key hf hg h2 r x hi).symm
  | none =>
    cases hj : mget J.all r with
    | none => rfl
    | some x => rw [key hg hf h1 r x hj] at hi; cases hi
theorem select_same {I J : Ix} (hI : IxOk I) (hJ : IxOk J) (h : ∀ r, mget I.all r = mget J.all r) (ml : List Mt) : selectF I ml = selectF J ml := by
  have strict : ∀ {I : Ix}, IxOk I → (selectF I ml).Pairwise (· < ·) := fun {I} hI => by
    have hn : (selectF I ml).Nodup := (sorted_perm _).nodup_iff.2 (selL_nodup hI.an ml)
    have hle := sorted_le (selL I ml)
    unfold selectF at hn ⊢
    exact (List.Pairwise.and hle hn).imp (fun h => by have := h.1; have := h.2; omega)
  refine strict_ext (strict hI) (strict hJ) (fun r => ?_)
  rw [mem_select hI, mem_select hJ]
  simp only [h]
end Go.Proofs.YtlhmdgaohonpbaaGreatDoor

/- the law PostingsOrder. -/
namespace Go.Proofs.YtlhmdgaohonpbaaGreatDoor
open Go.RowKit Go.Proofs.YtlhmdgaohonpbaaGreatDoor.MapRaw Go.ChangeMaps

/-- labels among the arguments -/
structure LvX where
  lv : Value
  lab : List Lb
def LvX.enc (x : LvX) : List Value := [x.lv]
def LvOk (w : World) (D : Nat → Prop) (l : List LvX) : Prop := ∀ x ∈ l, SlL w D x.lv x.lab ∧ SzL x.lab
theorem rdLv_at {w : World} {A : Option Addr} {l : List LvX} (h : Rd 1 LvX.enc w A l) {k : Nat} (hk : k < l.length) :
    ∃ b off, A = some ⟨b, off, none⟩ ∧ w.cell? ⟨b, off + k, none⟩ = some l[k].lv := by
  obtain ⟨b, off, e, h⟩ := h k l[k] (List.getElem?_eq_getElem hk)
  refine ⟨b, off, e, ?_⟩
  have := h 0 _ rfl
  simpa using this
theorem names_eq {I J : Ix} (hI : IxOk I) (hJ : IxOk J) (h : ∀ r, mget I.all r = mget J.all r) (f : Lb → Bool) (g : Lb → S8) : foldW f g (allL I.all) [] = foldW f g (allL J.all) [] := by
  have hm : ∀ {I J : Ix}, IxOk I → IxOk J → (∀ r, mget I.all r = mget J.all r) → ∀ y, y ∈ allL I.all → y ∈ allL J.all := fun {I J} hI hJ h y hy => by
    obtain ⟨p, hp, hyp⟩ := mem_allL.1 hy
    have h1 := mget_of_mem hI.an hp
    rw [h] at h1
    exact mem_allL.2 ⟨_, mget_mem h1, hyp⟩
  obtain ⟨a1, a2⟩ := foldW_spec f g (allL I.all) [] (by simp)
  obtain ⟨b1, b2⟩ := foldW_spec f g (allL J.all) [] (by simp)
  refine strict_extS a1 b1 (fun x => ?_)
  rw [a2, b2]
  constructor
  · rintro (h1 | ⟨y, hy, r⟩)
    · exact .inl h1
    · exact .inr ⟨y, hm hI hJ h y hy, r⟩
  · rintro (h1 | ⟨y, hy, r⟩)
    · exact .inl h1
    · exact .inr ⟨y, hm hJ hI (fun r => (h r).symm) y hy, r⟩
def SelU (w : World) (I : Ix) (ml : List Mt) (e : Ending) (w' : World) : Prop := ∃ v, e = .returned (.tuple #[v, .int .i64 (readyE ml)]) ∧ SlU w' (fun k => w.heap.size ≤ k) v (if readyE ml = 0 then selectF I ml else []) ∧ Below w.heap.size w w'
theorem SelPost.uni {w w' : World} {I : Ix} {ml : List Mt} {e : Ending} (h : SelPost w I ml e w') : SelU w I ml e w' := by
  rcases h with ⟨h0, v, rfl, hs, hb⟩ | ⟨h0, rfl, hb⟩
  · exact ⟨v, by rw [h0], by rw [if_pos h0]; exact hs, hb⟩
  · exact ⟨_, rfl, by rw [if_neg h0]; exact Slc.nil _ _ _ _, hb⟩
theorem RotTo.sz {l : List (List Lb)} {visit : Nat → Nat} {i : Nat} {I : Ix} (h : RotTo l visit i I) (hs : ∀ x ∈ l, SmallL x) : ∀ p ∈ I.all, ∀ x ∈ p.2, x.v.size ≤ 1000000 := fun p hp x hx => by
  obtain ⟨j, _, _, hl, _⟩ := (h.at_ _ _).1 (mget_of_mem h.ok.an hp)
  have := (hs _ (List.mem_of_getElem? hl)).2 x hx
  omega
theorem rot_inj {n t : Nat} : ∀ i, i < n → ∀ j, j < i → (j + t) % n ≠ (i + t) % n := fun i hi j hj e => by
  have h1 := Nat.sub_mod_eq_zero_of_mod_eq e.symm
  have h2 : i + t - (j + t) = i - j := by omega
  rw [h2, Nat.mod_eq_of_lt (by omega)] at h1
  omega
theorem rot_sur {n t : Nat} (hn : 0 < n) : ∀ k, k < n → ∃ j, j < n ∧ (j + t) % n = k := fun k hk => by
  have ht := Nat.mod_lt t hn
  by_cases h : t % n ≤ k
  · refine ⟨k - t % n, by omega, ?_⟩
    rw [← Nat.add_mod_mod, Nat.sub_add_cancel h, Nat.mod_eq_of_lt hk]
  · refine ⟨k + n - t % n, by omega, ?_⟩
    rw [← Nat.add_mod_mod, Nat.sub_add_cancel (by omega), Nat.add_mod_right, Nat.mod_eq_of_lt hk]
theorem rot_reckon {q k : Nat} {turn : Int} (ht : 0 ≤ turn) (hk : k ≤ 40) (hp : 0 < k) (hq : q < k) : (wrap64 ((q : Int) + turn % (k : Int))).tmod (k : Int) = (((q + turn.toNat % k) % k : Nat) : Int) := by
  have h1 : turn % (k : Int) = ((turn.toNat % k : Nat) : Int) := by
    rw [Int.natCast_emod, Int.toNat_of_nonneg ht]
  have h2 := Nat.mod_lt turn.toNat hp
  rw [h1]
  generalize turn.toNat % k = t at *
  have h3 : wrap64 ((q : Int) + (t : Int)) = ((q + t : Nat) : Int) := by
    have : ((q : Int) + (t : Int)) = ((q + t : Nat) : Int) := by omega
    rw [this]
    unfold wrap64
    omega
  rw [h3]
  rfl
theorem u64_small {q : Nat} (h : q ≤ 1000000) : IntKind.u64.wrap (q : Int) = (q : Int) := by
  simp [IntKind.wrap, IntKind.bits, IntKind.signed]
  omega
theorem arg_in {D : Nat → Prop} {w U : World} {v : Value} {l : List Lb} (h : SlL w D v l) (hb : Below w.heap.size w U) : SlL U (fun k => k < w.heap.size) v l :=
  (Slc.mono (D' := fun k => k < w.heap.size) h (fun k hk _ => hk)).below hb
theorem later_to {w U : World} {p : Addr} {v : Value} (hb : Below w.heap.size w U) (h : w.cell? p = some v) : U.cell? p = some v := later hb h
theorem right_arg {D : Nat → Prop} {w : World} {v : Value} {l : List Lb} (h : SlL w D v l) (hz : SzL l) : ∀ U : World, Below w.heap.size w U → Calls Tryz.prog 16 #[v] U fun e w' => e = .returned (.int .i64 (rightF l)) ∧ Below U.heap.size U w' := fun U hU => by
  obtain ⟨A, c, rfl, p1, p2, -, -, p5⟩ := h
  exact ref05_right A c l U (Rd.below p5 hU) (Nat.le_trans p1 p2) hz
set_option maxRecDepth 100000 in
set_option maxHeartbeats 8000000 in
theorem law_order10 {D D1 D2 : Nat → Prop} (v : Value) (l : List LvX) (mv : Value) (ml : List Mt) (turn : Int) (w : World) (hv : Slc 1 LvX.enc w D v l) (ho : LvOk w D1 l) (hm : Slc 3 Mt.enc w D2 mv ml) (hzm : ∀ x ∈ ml, SzM x) (hT : Tabs w) (h2 : 2 ≤ w.heap.size) :
    Calls Tryz.prog 3 #[v, mv, .int .i64 turn] w fun e w' => e = .returned (.bool true) ∧ Below w.heap.size w w' := by
  have HLive := Lib.hid fun (W : World) (hW : Below w.heap.size w W) => law10_live W (hT.below hW h2) (Nat.le_trans h2 hW.size)
  have HLong := Lib.hid fun (W : World) (hW : Below w.heap.size w W) => law_long mv ml W (hm.below hW)
  have HM := Lib.hid hm
  have HT := Lib.hid hT
  have HZm := Lib.hid hzm
  have HOk := Lib.hid ho
  obtain ⟨A, c, rfl, p1, p2, -, -, p5⟩ := hv
  obtain ⟨Am, cm, rfl, -⟩ := hm
  have HRd := Lib.hid p5
  have hm9 : l.length ≤ 9223372036854775807 := by simp only [maxLen] at p2; omega
  obtain ⟨n, hn⟩ : ∃ n, n = l.length := ⟨_, rfl⟩
  have Hn := Lib.hid hn
  rw [← hn] at hm9 ⊢
  generalize ml.length = nm at *
  clear ho hn p1 p2 p5 hT hzm
  by_cases hn0 : n = 0
  · subst hn0
    go_enter Tryz.func3, Tryz.ntmps3
    go_wp2_with fail
    refine (HLive.out w (Below.refl _ _)).mono ?_
    rintro e w1 ⟨rfl, hb⟩
    have HB1 := Lib.hid (hb)
    clear hb
    go_wp2_with fail
    refine (HLive.out w1 HB1.out).mono ?_
    rintro e w2 ⟨rfl, hb⟩
    have HB2 := Lib.hid (bthen HB1.out hb)
    clear hb
    go_wp2_with fail
    go_ret
    exact ⟨rfl, HB2.out⟩
  · have e0 : ((n : Int) == 0) = false := by simp; exact hn0
    have hnp : 0 < n := by omega
    by_cases hn40 : 40 < n
    · have d1 : decide ((n : Int) > 40) = true := decide_eq_true (by omega)
      have d2 : decide ((40 : Int) < (n : Int)) = true := decide_eq_true (by omega)
      clear hn40 hn0
      go_enter Tryz.func3, Tryz.ntmps3
      go_wp2_with fail
      refine (HLive.out w (Below.refl _ _)).mono ?_
      rintro e w1 ⟨rfl, hb⟩
      have HB1 := Lib.hid (hb)
      clear hb
      go_wp2_with fail
      refine (HLive.out w1 HB1.out).mono ?_
      rintro e w2 ⟨rfl, hb⟩
      have HB2 := Lib.hid (bthen HB1.out hb)
      clear hb
      go_wp2_with fail
      go_ret
      exact ⟨rfl, HB2.out⟩
    · have d1 : decide ((n : Int) > 40) = false := decide_eq_false (by omega)
      have d2 : decide ((40 : Int) < (n : Int)) = false := decide_eq_false (by omega)
      have hn4 : n ≤ 40 := by omega
      clear hn40 hn0
      cases hlg : longB ml with
      | true =>
        rw [hlg] at HLong
        clear hlg
        go_enter Tryz.func3, Tryz.ntmps3
        go_wp2_with fail
        refine (HLive.out w (Below.refl _ _)).mono ?_
        rintro e w1 ⟨rfl, hb⟩
        have HB1 := Lib.hid (hb)
        clear hb
        go_wp2_with fail
        refine (HLong.out w1 HB1.out).mono ?_
        rintro e w2 ⟨rfl, hb⟩
        have HB2 := Lib.hid (bthen HB1.out hb)
        clear hb
        go_wp2_with fail
        refine (HLive.out w2 HB2.out).mono ?_
        rintro e w3 ⟨rfl, hb⟩
        have HB3 := Lib.hid (bthen HB2.out hb)
        clear hb
        go_wp2_with fail
        go_ret
        exact ⟨rfl, HB3.out⟩
      | false =>
        rw [hlg] at HLong
        clear hlg
        by_cases htn : turn < 0
        · have d3 : decide (turn < 0) = true := decide_eq_true htn
          clear htn
          go_enter Tryz.func3, Tryz.ntmps3
          go_wp2_with fail
          refine (HLive.out w (Below.refl _ _)).mono ?_
          rintro e w1 ⟨rfl, hb⟩
          have HB1 := Lib.hid (hb)
          clear hb
          go_wp2_with fail
          refine (HLong.out w1 HB1.out).mono ?_
          rintro e w2 ⟨rfl, hb⟩
          have HB2 := Lib.hid (bthen HB1.out hb)
          clear hb
          go_wp2_with fail
          refine (HLive.out w2 HB2.out).mono ?_
          rintro e w3 ⟨rfl, hb⟩
          have HB3 := Lib.hid (bthen HB2.out hb)
          clear hb
          go_wp2_with fail
          go_ret
          exact ⟨rfl, HB3.out⟩
        · have d3 : decide (turn < 0) = false := decide_eq_false htn
          have ht0 : 0 ≤ turn := by omega
          clear htn
          go_enter Tryz.func3, Tryz.ntmps3
          go_wp2_with fail
          refine (HLive.out w (Below.refl _ _)).mono ?_
          rintro e w1 ⟨rfl, hb⟩
          have HB1 := Lib.hid hb
          clear hb
          go_wp2_with fail
          refine (HLong.out w1 HB1.out).mono ?_
          rintro e w2 ⟨rfl, hb⟩
          have HB2 := Lib.hid (bthen HB1.out hb)
          clear hb
          go_wp2_with fail
          refine (postings_new w2).mono ?_
          intro e w3 hp1
          have HP1 := Lib.hid hp1
          obtain ⟨xb, _, _, _, rfl, -⟩ := hp1
          go_wp2_with fail
          refine (postings_new w3).mono ?_
          intro e w4 hp2
          obtain ⟨xb', yb, e1, rfl, hTw⟩ := twe_start HB2.out HP1.out hp2
          cases e1
          have HTw := Lib.hid hTw
          clear hp2 hTw HP1
          go_wp2_with fail
          go_loopw [50] (fun i wr => ∃ k : Nat, k ≤ n ∧ i = .int .i64 k ∧ TwE w xb yb ix0 ix0 wr ∧ (∀ a (ha : a < l.length), a < k → SmallL l[a].lab) ∧ (∀ a b (ha : a < l.length) (hb : b < l.length), a < b → b < k → l[a].lab ≠ l[b].lab)) (fun i _ => n - (intOf i).toNat)
          case atStart => exact ⟨0, Nat.zero_le _, rfl, HTw.out, fun a _ h => by omega, fun a b _ _ _ h => by omega⟩
          case round =>
            obtain ⟨k, hk, rfl, hE, hS, hD⟩ := hrel
            by_cases hlt : k < n
            · have hkl : k < l.length := by rw [← Hn.out]; exact hlt
              have hbel := hE.below
              obtain ⟨b, off, e1, z0⟩ := rdLv_at (HRd.out.below hbel) hkl
              cases e1
              have hx := HOk.out _ (List.getElem_mem hkl)
              have HXk := Lib.hid hx.1
              obtain ⟨lk, hlk⟩ : ∃ x, x = l[k] := ⟨_, rfl⟩
              rw [← hlk] at z0 hx HXk
              have HLk := Lib.hid hlk
              obtain ⟨lv, lab⟩ := lk
              simp only at z0 hx HXk
              have HBig := Lib.hid fun (W : World) (hW : Below w.heap.size w W) => law_big lv lab W (hx.1.below hW)
              obtain ⟨⟨A2, c2, rfl, -⟩, -⟩ := hx
              generalize hnl : lab.length = nl at *
              have HE := Lib.hid hE
              have HS := Lib.hid hS
              have HD := Lib.hid hD
              have hbs : bigB lab = false → SmallL lab := big_small
              have HBs := Lib.hid hbs
              generalize bigB lab = bz at *
              clear hE hS hD hbel hlk hnl hbs
              go_wp2_with fail
              refine (HBig.out wr HE.out.below).mono ?_
              rintro e w5 ⟨rfl, hb5⟩
              have HE5 := Lib.hid (HE.out.then hb5)
              clear hb5
              cases bz with
              | true =>
                go_wp2_with fail
                go_ret
                exact ⟨rfl, HE5.out.below⟩
              | false =>
                go_wp2_with fail
                go_loopw [58] (fun i wr => ∃ j : Nat, j ≤ k ∧ i = .int .i64 j ∧ TwE w xb yb ix0 ix0 wr ∧ (∀ a (ha : a < l.length), a < j → l[a].lab ≠ lab)) (fun i _ => k - (intOf i).toNat)
                case atStart => exact ⟨0, Nat.zero_le _, rfl, HE5.out, fun a _ h => by omega⟩
                case round =>
                  obtain ⟨j, hj, rfl, hE9, hN9⟩ := hrel
                  by_cases hjk : j < k
                  · have hjl : j < l.length := by omega
                    have hbel := hE9.below
                    obtain ⟨b9, off9, e9, z9⟩ := rdLv_at (HRd.out.below hbel) hjl
                    cases e9
                    have hy := HOk.out _ (List.getElem_mem hjl)
                    have hsame := lab_same w hy.1 HXk.out
                    have HNx := Lib.hid hN9
                    obtain ⟨lj, hlj⟩ : ∃ x, x = l[j] := ⟨_, rfl⟩
                    rw [← hlj] at z9 hy hsame
                    have HLj := Lib.hid hlj
                    obtain ⟨lv9, lab9⟩ := lj
                    simp only at z9 hy hsame
                    have HSame := Lib.hid hsame
                    obtain ⟨⟨A9, c9, rfl, -⟩, -⟩ := hy
                    generalize lab9.length = nl9 at *
                    have HE9 := Lib.hid hE9
                    have hjn : (j : Int) < (n : Int) := by omega
                    clear hE9 hN9 hsame hbel hlj
                    by_cases heq : lab9 = lab
                    · have hd : decide (lab9 = lab) = true := decide_eq_true heq
                      rw [hd] at HSame
                      clear hd heq
                      go_wp2_with fail
                      refine (HSame.out wr HE9.out.below).mono ?_
                      rintro e w6 ⟨rfl, hb6⟩
                      have HE6 := Lib.hid (HE9.out.then hb6)
                      clear hb6
                      go_wp2_with fail
                      go_ret
                      exact ⟨rfl, HE6.out.below⟩
                    · have hd : decide (lab9 = lab) = false := decide_eq_false heq
                      rw [hd] at HSame
                      have HNe := Lib.hid heq
                      clear hd heq
                      go_wp2_with fail
                      refine (HSame.out wr HE9.out.below).mono ?_
                      rintro e w6 ⟨rfl, hb6⟩
                      have HE6 := Lib.hid (HE9.out.then hb6)
                      clear hb6
                      go_wp2_with fail
                      go_roundw
                      case rel => exact ⟨j + 1, by omega, by go_num, HE6.out, fun a ha haj => by
                        by_cases e : a = j
                        · subst e; rw [← HLj.out]; exact HNe.out
                        · exact HNx.out a ha (by omega)⟩
                      case measure => simp [intOf] <;> omega
                  · have hjk2 : j = k := by omega
                    subst hjk2
                    have HE9 := Lib.hid hE9
                    have HN9 := Lib.hid hN9
                    clear hE9 hN9
                    go_wp2_with fail
                    go_roundw
                    case rel => exact ⟨j + 1, by omega, by go_num, HE9.out, fun a ha haj => by
                      by_cases e : a = j
                      · subst e; rw [← HLk.out]; exact HBs.out trivial
                      · exact HS.out a ha (by omega), fun a b ha hb hab hbj => by
                      by_cases e : b = j
                      · subst e; rw [← HLk.out]; exact HN9.out a ha hab
                      · exact HD.out a b ha hb hab (by omega)⟩
                    case measure => simp [intOf] <;> omega
            · have hkn : k = n := by omega
              subst hkn
              have HE := Lib.hid hE
              have HSm : Hid (∀ x ∈ l.map LvX.lab, SmallL x) := Lib.hid (fun x hx => by
                obtain ⟨y, hy, rfl⟩ := List.mem_map.1 hx
                obtain ⟨a, ha, rfl⟩ := List.getElem_of_mem hy
                exact hS a ha (by rw [Hn.out]; exact ha))
              have HDs : Hid (∀ a b : Nat, a ≠ b → ∀ x, (l.map LvX.lab)[a]? = some x → (l.map LvX.lab)[b]? ≠ some x) := Lib.hid (fun a b hab x ha hb => by
                obtain ⟨ha1, ha2⟩ := List.getElem?_eq_some_iff.1 ha
                obtain ⟨hb1, hb2⟩ := List.getElem?_eq_some_iff.1 hb
                rw [List.length_map] at ha1 hb1
                rw [List.getElem_map] at ha2 hb2
                by_cases hlt2 : a < b
                · exact hD a b ha1 hb1 hlt2 (by rw [Hn.out]; exact hb1) (ha2.trans hb2.symm)
                · exact hD b a hb1 ha1 (by omega) (by rw [Hn.out]; exact ha1) (hb2.trans ha2.symm))
              clear hE hS hD
              have HSt : Hid (∃ I J, RotTo (l.map LvX.lab) id 0 I ∧ RotTo (l.map LvX.lab) (fun j => (j + turn.toNat % k) % k) 0 J ∧ TwE w xb yb I J wr) := Lib.hid ⟨ix0, ix0, RotTo.start _ _, RotTo.start _ _, HE.out⟩
              clear HE
              go_wp2_with fail
              go_loopw [71] (fun i wr => ∃ q : Nat, q ≤ k ∧ i = .int .i64 q ∧ ∃ I J, RotTo (l.map LvX.lab) id q I ∧ RotTo (l.map LvX.lab) (fun j => (j + turn.toNat % k) % k) q J ∧ TwE w xb yb I J wr) (fun i _ => k - (intOf i).toNat)
              case atStart => exact ⟨0, Nat.zero_le _, rfl, HSt.out⟩
              case round =>
                obtain ⟨q, hq, rfl, I, J, hRI, hRJ, hE⟩ := hrel
                have hbel := hE.below
                by_cases hqk : q < k
                · have hql : q < l.length := by rw [← Hn.out]; exact hqk
                  obtain ⟨b, off, e1, z0⟩ := rdLv_at (HRd.out.below hbel) hql
                  cases e1
                  have hx := HOk.out _ (List.getElem_mem hql)
                  obtain ⟨kk, hkk⟩ : ∃ kk, kk = (q + turn.toNat % k) % k := ⟨_, rfl⟩
                  have hkkl : kk < k := by rw [hkk]; exact Nat.mod_lt _ hnp
                  have hkll : kk < l.length := by rw [← Hn.out]; exact hkkl
                  have hmod : (wrap64 ((q : Int) + turn % (k : Int))).tmod (k : Int) = (kk : Int) := by
                    rw [hkk]; exact rot_reckon ht0 hn4 hnp hqk
                  obtain ⟨b9, off9, e9, zk⟩ := rdLv_at HRd.out hkll
                  cases e9
                  have hy := HOk.out _ (List.getElem_mem hkll)
                  have hIn : (l.map LvX.lab)[q]? = some l[q].lab := by rw [List.getElem?_map, List.getElem?_eq_getElem hql]; rfl
                  have hJn : (l.map LvX.lab)[kk]? = some l[kk].lab := by rw [List.getElem?_map, List.getElem?_eq_getElem hkll]; rfl
                  obtain ⟨ea, hRI2⟩ := hRI.next (visit := id) (i := q) hIn (by omega) (fun j hj => by simp; omega) HDs.out
                  obtain ⟨eb, hRJ2⟩ := hRJ.next (i := q) (lab := l[kk].lab) (by rw [← hkk]; exact hJn) (by omega) (fun j hj => rot_inj q hqk j hj) HDs.out
                  rw [← hkk] at eb hRJ2
                  simp only [id] at ea hRI2
                  have HRI2 := Lib.hid hRI2
                  have HRJ2 := Lib.hid hRJ2
                  clear hRI hRJ hRI2 hRJ2 hIn hJn hkk
                  have HAx := Lib.hid fun (U : World) (hU : Below wr.heap.size wr U) => TwE.add (q : Int) l[q].lv l[q].lab (hE.then hU) (arg_in hx.1 (hE.then hU).below) hx.2 HT.out h2
                  have HAy := Lib.hid fun (U : World) (K : Ix) (hU : TwE w xb yb K J U) => TwE.add (kk : Int) l[kk].lv l[kk].lab hU.swap (arg_in hy.1 hU.below) hy.2 HT.out h2
                  have HRx := Lib.hid fun (U : World) (hU : Below w.heap.size w U) => right_arg hx.1 hx.2 U hU
                  have HRy := Lib.hid fun (U : World) (hU : Below w.heap.size w U) => right_arg hy.1 hy.2 U hU
                  have HE := Lib.hid hE
                  generalize l[kk] = y at *
                  generalize l[q] = x at *
                  obtain ⟨lvx, labx⟩ := x
                  obtain ⟨lvy, laby⟩ := y
                  simp only at z0 zk hx hy ea eb HRI2 HRJ2 HAx HAy HRx HRy
                  obtain ⟨⟨Ax, cx, rfl, -⟩, -⟩ := hx
                  obtain ⟨⟨Ay, cy, rfl, -⟩, -⟩ := hy
                  rw [ea] at HRI2 HAx
                  rw [eb] at HRJ2 HAy
                  generalize rightF labx = rx at *
                  generalize rightF laby = ry at *
                  generalize (if rx = 0 then addI I (q : Int) labx else I) = I2 at *
                  generalize (if ry = 0 then addI J (kk : Int) laby else J) = J2 at *
                  generalize labx.length = nx at *
                  generalize laby.length = ny at *
                  have g1 : (rx != rx) = false := by simp
                  have g2 : (ry != ry) = false := by simp
                  have w1' : IntKind.u64.wrap (q : Int) = (q : Int) := u64_small (by omega)
                  have w2' : IntKind.u64.wrap (kk : Int) = (kk : Int) := u64_small (by omega)
                  have i1 : (0 : Int) ≤ (kk : Int) := by omega
                  have i2 : (kk : Int) < (k : Int) := by omega
                  clear hE ea eb
                  go_upto_region 22 with fail
                  have y0 : wr.drew.cell? ⟨b, off + kk, none⟩ = some (.slice Ay ny cy) := later_to (bdrew hbel) zk
                  go_region_held3 (fun w' => w'.cell? ⟨b, off + kk, none⟩ = some (.slice Ay ny cy)) (first | exact y0 | exact y5 | exact y6 | exact y7 | exact y8)
                    (first | (go_at_call 16; refine (HRy.out w7 h7.below).mono ?_; rintro e w8 ⟨rfl, hb8⟩; have h8 := (h7.then hb8).swap; have y8 := later_to h8.below zk) | (go_at_call 15; refine (HAy.out w6 _ h6).mono ?_; rintro e w7 ⟨rfl, h7⟩; have y7 := later_to h7.below zk) | (go_at_call 16; refine (HRx.out w5 h5.below).mono ?_; rintro e w6 ⟨rfl, hb6⟩; have h6 := h5.then hb6; have y6 := later_to h6.below zk) | (go_at_call 15; refine (HAx.out _ (bdrew (Below.refl _ _))).mono ?_; rintro e w5 ⟨rfl, h5⟩; have y5 := later_to h5.below zk))
                  all_goals
                    have H8 := Lib.hid h8
                    clear h8 h7 hb8 h6 hb6 h5 y0 y5 y6 y7 y8
                    go_wp2_with fail
                    go_roundw
                    case rel => exact ⟨q + 1, by omega, by go_num, _, _, HRI2.out, HRJ2.out, H8.out⟩
                    case measure => simp [intOf] <;> omega
                · have hqe : q = k := by omega
                  subst hqe
                  have HE := Lib.hid hE
                  have hln : (l.map LvX.lab).length = q := by rw [List.length_map]; exact Hn.out.symm
                  have hsm : ∀ r, mget I.all r = mget J.all r := rot_same (f := id) (g := fun j => (j + turn.toNat % q) % q) (by rw [hln]; exact hRI) (by rw [hln]; exact hRJ) (by rw [hln]; exact fun k hk => ⟨k, hk, rfl⟩) (by rw [hln]; exact rot_sur hnp)
                  obtain ⟨X, a1, r1, h1, in1, a2, r2, h3, in2, hT2⟩ := hE
                  have HT2 := Lib.hid hT2
                  have HSel : Hid (selectF J ml = selectF I ml) := Lib.hid (select_same hT2.oky hT2.okx (fun r => (hsm r).symm) ml)
                  have HNam : Hid (foldW (fun y => (fun _ => true) y.n) (fun y => (fun a : ByteArray × ByteArray => by8 a.1) (y.n, y.v)) (allL J.all) [] = foldW (fun y => (fun _ => true) y.n) (fun y => (fun a : ByteArray × ByteArray => by8 a.1) (y.n, y.v)) (allL I.all) []) := Lib.hid (names_eq hT2.oky hT2.okx (fun r => (hsm r).symm) _ _)
                  have hli : I.all.length ≤ 40 := Nat.le_trans hRI.len hn4
                  have hlj : J.all.length ≤ 40 := Nat.le_trans hRJ.len hn4
                  have HHi : Hid (I.has.length ≤ 1000000) := Lib.hid (by have := (all_small hT2.okx (by omega)).2; omega)
                  have HHj : Hid (J.has.length ≤ 1000000) := Lib.hid (by have := (all_small hT2.oky (by omega)).2; omega)
                  have HLj : Hid (J.all.length ≤ 1000000) := Lib.hid (by omega)
                  have HZj := Lib.hid (hRJ.sz HSm.out)
                  have hs1 := (ix_select _ ml wr hT2.x hT2.okx (by omega) (hRI.sz HSm.out) (HM.out.below hT2.below) HZm.out (HT.out.below hT2.below h2) (Nat.le_trans h2 hT2.below.size)).mono (fun e w' h => SelPost.uni h)
                  unfold SelU at hs1
                  have HSl := Lib.hid hs1
                  generalize hre0 : readyE ml = re at *
                  have HRe0 := Lib.hid hre0
                  clear hre0
                  clear hbel hRI hRJ hsm hT2 hs1 hli hlj hln
                  go_wp2_with fail
                  refine HSl.out.mono ?_
                  rintro e w5 ⟨va, rfl, hva, hb5⟩
                  obtain ⟨Aa, ca, rfl, -⟩ := id hva
                  have HVa := Lib.hid hva
                  have HX5 := Lib.hid (HT2.out.x.below hb5)
                  have HY5 := Lib.hid (HT2.out.y.below hb5)
                  have HB5 := Lib.hid (bthen HT2.out.below hb5)
                  have hs2 := (ix_select _ ml w5 HY5.out HT2.out.oky HLj.out HZj.out (HM.out.below HB5.out) HZm.out (HT.out.below HB5.out h2) (Nat.le_trans h2 HB5.out.size)).mono (fun e w' h => SelPost.uni h)
                  unfold SelU at hs2
                  rw [HSel.out, HRe0.out] at hs2
                  have HSl2 := Lib.hid hs2
                  have hre : (re == re) = true := beq_self_eq_true re
                  generalize (if re = 0 then selectF I ml else []) = sel at *
                  clear hva hb5 hs2
                  go_wp2_with fail
                  refine HSl2.out.mono ?_
                  rintro e w6 ⟨vb, rfl, hvb, hb6⟩
                  obtain ⟨Ab, cb, rfl, -⟩ := id hvb
                  have HX6 := Lib.hid (HX5.out.below hb6)
                  have HY6 := Lib.hid (HY5.out.below hb6)
                  have HB6 := Lib.hid (bthen HB5.out hb6)
                  have hnum := law_numbers _ _ sel sel w6 (HVa.out.below hb6) hvb
                  rw [decide_eq_true (rfl : sel = sel)] at hnum
                  have HNum := Lib.hid hnum
                  clear hvb hb6 hnum
                  go_wp2_with fail
                  refine HNum.out.mono ?_
                  rintro e w7 ⟨rfl, hb7⟩
                  have HX7 := Lib.hid (HX6.out.below hb7)
                  have HY7 := Lib.hid (HY6.out.below hb7)
                  have HB7 := Lib.hid (bthen HB6.out hb7)
                  have hn1 := ix_names w7 HX7.out HT2.out.okx HHi.out
                  unfold NamePost at hn1
                  have HN1 := Lib.hid hn1
                  clear hb7 hn1
                  go_wp2_with fail
                  refine HN1.out.mono ?_
                  rintro e w8 ⟨v8, rfl, hs8, hb8⟩
                  obtain ⟨A8, c8, rfl, -⟩ := id hs8
                  have HV8 := Lib.hid hs8
                  have HY8 := Lib.hid (HY7.out.below hb8)
                  have HB8 := Lib.hid (bthen HB7.out hb8)
                  have hn2 := ix_names w8 HY8.out HT2.out.oky HHj.out
                  unfold NamePost at hn2
                  rw [HNam.out] at hn2
                  have HN2 := Lib.hid hn2
                  clear hs8 hb8 hn2
                  go_wp2_with fail
                  refine HN2.out.mono ?_
                  rintro e w9 ⟨v9, rfl, hs9, hb9⟩
                  obtain ⟨A9, c9, rfl, -⟩ := id hs9
                  have HB9 := Lib.hid (bthen HB8.out hb9)
                  have hwd := law_words _ _ _ _ w9 (HV8.out.below hb9) hs9
                  simp only [decide_true] at hwd
                  have HWd := Lib.hid hwd
                  clear hs9 hb9 hwd
                  go_wp2_with fail
                  refine HWd.out.mono ?_
                  rintro e w10 ⟨rfl, hb10⟩
                  have HB10 := Lib.hid (bthen HB9.out hb10)
                  clear hb10
                  go_wp2_with fail
                  go_ret
                  exact ⟨rfl, HB10.out⟩
end Go.Proofs.YtlhmdgaohonpbaaGreatDoor

/- lists of labels, and matchers, among the law's arguments. -/
namespace Go.Proofs.YtlhmdgaohonpbaaGreatDoor
open Go.RowKit Go.ChangeShapes Go.WideShapes Go.Deep

theorem three_ofM {α : Type} {l : List α} (h : l.length = 3) : ∃ a b c, l = [a, b, c] := by
  match l, h with
  | [a, b, c], _ => exact ⟨a, b, c, rfl⟩
theorem one_intM {P : Program} {w : World} {r : Reach} {base : Nat} {t : TypeId} {k : IntKind} {v v0 : Value} (ht : P.underlying t = some (.int k)) (h : Value.okWide P w r base t v0) (hv : v0.cells.toList = [v]) : v = v0 := by
  simp only [Value.okWide, ht, Cell.okWide] at h
  cases v0 <;> simp_all [Cell.ok, Value.cells]
theorem cells_mt : Tryz.prog.cellsOf 68 = 3 := by kernel_rfl
theorem cells_intM : Tryz.prog.cellsOf 3 = 1 := by kernel_rfl
theorem mt_shape : ∃ f0 f1 f2 : Field, Tryz.prog.underlying 68 = some (.struct #[f0, f1, f2]) ∧ (f0.offset = 0 ∧ f1.offset = 1 ∧ f2.offset = 2) ∧ f0.type = 3 ∧ f1.type = 9 ∧ f2.type = 9 :=
  ⟨_, _, _, Tryz.underlying68, ⟨rfl, rfl, rfl⟩, rfl, rfl, rfl⟩
section
variable {H : Type} {en : TypeId × Value → H} {w : World} {base : Nat}
theorem open_lvs {fuel : Nat} {cs : List Value} {x : DataW H × List MemPlace} (h : DataW.trod en Tryz.prog w base (fun _ => true) true fuel 22 cs = some x) : ∃ v l, cs = [v] ∧ Slc 1 LvX.enc w (fun _ => True) v l ∧ LvOk w (fun _ => True) l := by
  refine slc_of_open (sz := 1) (enc := LvX.enc) (⟨.nilIface, []⟩ : LvX) (fun x => rfl) (by decide) Tryz.underlying22 cells_lbls (fun x => SlL w (fun _ => True) x.lv x.lab ∧ SzL x.lab) ?_ h
  intro n cs' y hy
  obtain ⟨v, lab, e2, hv, hz⟩ := open_lbls hy
  exact ⟨⟨v, lab⟩, e2, hv, hz⟩
theorem open_ms {fuel : Nat} {cs : List Value} {x : DataW H × List MemPlace} (h : DataW.trod en Tryz.prog w base (fun _ => true) true fuel 23 cs = some x) : ∃ v l, cs = [v] ∧ Slc 3 Mt.enc w (fun _ => True) v l ∧ ∀ x ∈ l, SzM x := by
  refine slc_of_open (sz := 3) (enc := Mt.enc) (⟨0, ByteArray.empty, ByteArray.empty⟩ : Mt) (fun x => rfl) (by decide) Tryz.underlying23 cells_mt (fun x => SzM x) ?_ h
  intro n cs' y hy
  obtain ⟨f0, f1, f2, hs, ⟨o0, o1, o2⟩, t0, t1, t2⟩ := mt_shape
  obtain ⟨xs, k, _, _, hlen, hxl, hf⟩ := DataW.trod_struct hs hy
  rw [cells_mt] at hlen
  obtain ⟨v0, v1, v2, rfl⟩ := three_ofM hlen
  obtain ⟨y0, y1, y2, rfl⟩ := three_ofM hxl
  have g0 := hf 0 f0 rfl
  have g1 := hf 1 f1 rfl
  have g2 := hf 2 f2 rfl
  rw [o0, t0, cells_intM] at g0
  rw [o1, t1, cells_str] at g1
  rw [o2, t2, cells_str] at g2
  simp at g0 g1 g2
  obtain ⟨n0, e0, _⟩ := DataW.trod_int Tryz.underlying3 g0
  obtain ⟨s1, e1, _, b1⟩ := DataW.trod_string Tryz.underlying9 g1
  obtain ⟨s2, e2, _, b2⟩ := DataW.trod_string Tryz.underlying9 g2
  simp at e0 e1 e2
  subst e0; subst e1; subst e2
  exact ⟨⟨n0, s1, s2⟩, rfl, b1, b2⟩
end
end Go.Proofs.YtlhmdgaohonpbaaGreatDoor
