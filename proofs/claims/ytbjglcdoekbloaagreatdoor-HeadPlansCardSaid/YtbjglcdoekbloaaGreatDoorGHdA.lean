import Derived.Test.YtbjglcdoekbloaaGreatDoorGIx
import Derived.Test.YtbjglcdoekbloaaGreatDoorGPtsC
import Derived.Lib.MinMax
set_option linter.unusedSimpArgs false
set_option linter.unusedVariables false
set_option linter.unusedSectionVars false
/- head.Head in memory; New, is, inner.add. -/
namespace Go.Proofs.YtbjglcdoekbloaaGreatDoor
open Go.RowKit Go.Proofs.YtbjglcdoekbloaaGreatDoor.MapRaw Go.ChangeMaps

/-- a head: an index, points by numbers, the greatest number -/
structure Hd where
  ix : Ix
  pts : List (Int × List Pt)
  top : Int
def evP (w : World) (X : List Nat) (l : List Pt) (v : Value) : Prop := SlP w (fun k => k ∉ X) v l ∧ l.length ≤ 65536
/-- where a head's blocks are -/
structure HLoc where
  hp : Nat
  ib : Nat
  xb : Nat
  pb : Nat
  ab : Nat
  rb : Nat
  hb : Nat
  inner : List ((ByteArray × ByteArray) × Nat)
/-- the inner part: block ib -/
structure InAt (w : World) (X : List Nat) (o : HLoc) (H : Hd) : Prop where
  ic : w.heap[o.ib]? = some (.cells #[.pointer (some ⟨o.xb, 0, none⟩), .map (some o.pb), .int .u64 H.top] 95 (0, 0))
  ix : IxAt w X o.xb H.ix o.ab o.rb o.hb o.inner
  pts : MapAt w eU (evP w X) o.pb H.pts
  mem : o.ib ∈ X ∧ o.pb ∈ X ∧ o.xb ∉ X ∧ o.hp ∉ X
  ne : o.ib ≠ o.pb ∧ o.ib ∉ [o.ab, o.rb, o.hb] ++ o.inner.map (·.2) ∧ o.pb ∉ [o.ab, o.rb, o.hb] ++ o.inner.map (·.2)
/-- all mutable blocks of a head -/
def blksH (o : HLoc) : List Nat := [o.ib, o.pb] ++ ([o.ab, o.rb, o.hb] ++ o.inner.map (·.2))
theorem InAt.bsub {w : World} {X : List Nat} {o : HLoc} {H : Hd} (h : InAt w X o H) : ∀ k ∈ blksH o, k ∈ X := by
  intro k hk
  unfold blksH at hk
  rcases List.mem_append.1 hk with hk | hk
  · simp at hk
    rcases hk with rfl | rfl
    · exact h.mem.1
    · exact h.mem.2.1
  · exact h.ix.sub k hk
theorem ib_mem (o : HLoc) : o.ib ∈ blksH o := by simp [blksH]
theorem pb_mem (o : HLoc) : o.pb ∈ blksH o := by simp [blksH]
structure HeadAt (w : World) (X : List Nat) (o : HLoc) (H : Hd) : Prop where
  hc : w.heap[o.hp]? = some (.cells #[.pointer (some ⟨o.ib, 0, none⟩)] 51 (0, 0))
  inn : InAt w X o H
theorem evP.move {w w' : World} {X X' : List Nat} {l : List Pt} {v : Value} (h : evP w X l v) (hs : w.heap.size ≤ w'.heap.size) (hb : ∀ k, k < w.heap.size → k ∉ X → w'.heap[k]? = w.heap[k]?) (hX : ∀ k, k < w.heap.size → k ∉ X → k ∉ X') : evP w' X' l v :=
  ⟨((Slc.mono (D' := fun k => k ∉ X ∧ k ∉ X') h.1 (fun k hk hkX => ⟨hkX, hX k hk hkX⟩)).move hs (fun k hk hkX => hb k hk hkX.1)).mono (fun k _ hkX => hkX.2), h.2⟩
theorem InAt.below {w w' : World} {X : List Nat} {o : HLoc} {H : Hd} (h : InAt w X o H) (hB : Below w.heap.size w w') : InAt w' X o H :=
  ⟨blk_below h.ic hB, h.ix.below hB, h.pts.move (hB.block _ h.pts.blk) (fun _ _ _ hv => hv.move hB.size (fun k hk _ => hB.block k hk) (fun _ _ h => h)), h.mem, h.ne⟩
theorem HeadAt.below {w w' : World} {X : List Nat} {o : HLoc} {H : Hd} (h : HeadAt w X o H) (hB : Below w.heap.size w w') : HeadAt w' X o H := ⟨blk_below h.hc hB, h.inn.below hB⟩

set_option maxHeartbeats 400000 in
theorem head_is (hp ib : Nat) (w : World) (h : w.cell? ⟨hp, 0, none⟩ = some (.pointer (some ⟨ib, 0, none⟩))) :
    Calls Tryz.prog 34 #[.pointer (some ⟨hp, 0, none⟩)] w fun e w' => e = .returned (.bool true) ∧ w = w' := by
  go_enter Tryz.func34, Tryz.ntmps34
  go_wp2
  go_ret
  exact ⟨rfl, rfl⟩

def HNewPost (w : World) (e : Ending) (w' : World) : Prop :=
  ∃ o X, e = .returned (.pointer (some ⟨o.hp, 0, none⟩)) ∧ HeadAt w' X o ⟨⟨[], [], []⟩, [], 0⟩ ∧ (∀ k ∈ X, w.heap.size ≤ k) ∧ Below w.heap.size w w'
theorem newHd {w w1 : World} {xb ab rb hb : Nat} (hI : IxAt w1 [ab, rb, hb] xb ⟨[], [], []⟩ ab rb hb []) (hn : w.heap.size ≤ ab ∧ w.heap.size ≤ rb ∧ w.heap.size ≤ hb ∧ w.heap.size ≤ xb ∧ xb ≠ ab ∧ xb ≠ rb ∧ xb ≠ hb ∧ xb < w1.heap.size) (hB : Below w.heap.size w w1) {o1 o2 : Obj}
    (h1 : o1 = .cells #[.pointer (some ⟨xb, 0, none⟩), .map (some w1.heap.size), .int .u64 0] 95 (0, 0)) (h2 : o2 = .cells #[.pointer (some ⟨w1.heap.size + 1, 0, none⟩)] 51 (0, 0)) :
    HeadAt (((w1.alloc (.map #[] 0)).alloc o1).alloc o2) [w1.heap.size + 1, w1.heap.size, ab, rb, hb] ⟨w1.heap.size + 2, w1.heap.size + 1, xb, w1.heap.size, ab, rb, hb, []⟩ ⟨⟨[], [], []⟩, [], 0⟩ := by
  have s0 : (w1.alloc (.map #[] 0)).heap.size = w1.heap.size + 1 := by simp
  have s1 : ((w1.alloc (.map #[] 0)).alloc o1).heap.size = w1.heap.size + 2 := by simp
  have a0 := blk_new w1 (.map #[] 0)
  have a1 := blk_new (w1.alloc (.map #[] 0)) o1
  have a2 := blk_new ((w1.alloc (.map #[] 0)).alloc o1) o2
  rw [s0] at a1; rw [s1] at a2
  have al : ∀ (W : World) (k : Nat) (x y : Obj), W.heap[k]? = some x → (W.alloc y).heap[k]? = some x := fun W k x y h => blk_below h ((Below.refl _ _).alloc (Nat.le_refl _) y)
  have hB1 : Below w1.heap.size w1 (((w1.alloc (.map #[] 0)).alloc o1).alloc o2) := balloc (balloc (balloc (Below.refl _ _) _) _) _
  have lt := hI.lt
  have la := lt ab (by simp)
  have lr := lt rb (by simp)
  have lh := lt hb (by simp)
  obtain ⟨n1, n2, n3, n4, n5, n6, n7, n8⟩ := hn
  refine ⟨by rw [a2, h2], ⟨by rw [al _ _ _ _ a1, h1], ?_, ⟨_, _, al _ _ _ _ (al _ _ _ _ a0), IsMap.empty⟩, ?_, ?_⟩⟩
  · refine hI.move hB1.size (fun k hk _ => hB1.block k hk) (fun k hk hkX hm => ?_) (fun k hk => ?_) (fun k hk => ?_)
    · simp at hm hkX
      omega
    · simp at hk ⊢; omega
    · simp at hk ⊢
      omega
  · simp; omega
  · simp; omega

set_option maxHeartbeats 400000 in
theorem head_new (w : World) : Calls Tryz.prog 30 #[] w (HNewPost w) := by
  have hmm := @run_makeMap Tryz.prog
  have hp := postings_new w
  unfold AddNewPost at hp
  have HP := Lib.hid hp
  clear hp
  go_enter Tryz.func30, Tryz.ntmps30
  go_wp2_with fail
  refine HP.out.mono ?_
  rintro e w1 ⟨xb, ab, rb, hb, rfl, hI, hn, hB⟩
  have HI := Lib.hid hI
  have Hn := Lib.hid hn
  clear hI hn
  go_wp2
  go_ret
  refine ⟨_, _, ?_, newHd HI.out Hn.out hB rfl rfl, ?_, ?_⟩
  · rfl
  · intro k hk
    have := Hn.out
    have := hB.size
    simp at hk
    omega
  · exact balloc (balloc (balloc hB _) _) _
end Go.Proofs.YtbjglcdoekbloaaGreatDoor

/- head.inner.add. -/
namespace Go.Proofs.YtbjglcdoekbloaaGreatDoor
open Go.RowKit Go.Proofs.YtbjglcdoekbloaaGreatDoor.MapRaw Go.ChangeMaps

def addH (H : Hd) (ref : Int) (l : List Lb) : Hd := ⟨addI H.ix ref l, mput H.pts ref [], max H.top ref⟩
/-- the mutable blocks grow by new ones -/
structure MoreX (w : World) (X X' : List Nat) : Prop where
  old : ∀ k ∈ X, k ∈ X'
  new : ∀ k ∈ X', k ∈ X ∨ w.heap.size ≤ k
theorem MoreX.refl (w : World) (X : List Nat) : MoreX w X X := ⟨fun _ h => h, fun _ h => .inl h⟩
theorem MoreX.trans {w w' : World} {X X' X'' : List Nat} (h : MoreX w X X') (k : MoreX w' X' X'') (hs : w.heap.size ≤ w'.heap.size) : MoreX w X X'' :=
  ⟨fun i hi => k.old i (h.old i hi), fun i hi => (k.new i hi).elim (h.new i) (fun h => .inr (Nat.le_trans hs h))⟩
theorem MoreX.out {w : World} {X X' : List Nat} (h : MoreX w X X') {k : Nat} (hk : k < w.heap.size) (hX : k ∉ X) : k ∉ X' := fun hm => (h.new k hm).elim hX (fun h => by omega)

theorem setCell_blk {w : World} {b i : Nat} {cs : Array Value} {t : TypeId} {fr : Nat × Nat} (u : Value) (h : w.heap[b]? = some (.cells cs t fr)) : (w.setCell ⟨b, i, none⟩ u).heap[b]? = some (.cells (cs.setIfInBounds i u) t fr) := by
  simp [World.setCell, Array.getElem?_modify, h]
theorem free_blk {w : World} {b i : Nat} {cs : Array Value} {t : TypeId} (h : w.heap[b]? = some (.cells cs t (0, 0))) : w.frozen? ⟨b, i, none⟩ = false := by simp [World.frozen?, h]
theorem Apart.setC {P : Nat → Prop} {a b : World} (h : Apart P a b) (p : Addr) (hk : P p.block ∨ a.heap.size ≤ p.block) (u : Value) : Apart P a (b.setCell p u) := by
  refine h.trans (Q := fun i => i = p.block) ⟨rfl, rfl, rfl, by simp [World.setCell], fun i _ hne => Below.heap_setCell _ _ _ _ hne⟩ (fun i hi e => ?_)
  rcases hk with hk | hk
  · rw [e]; exact hk
  · omega

theorem IxAt.xsub {w w' : World} {X X' : List Nat} {xb : Nat} {I : Ix} {ab rb hb : Nat} {inner : List ((ByteArray × ByteArray) × Nat)} (h : IxAt w X xb I ab rb hb inner) (k : Nat) (hk : k ∈ [ab, rb, hb] ++ inner.map (·.2)) : k ∈ X ∧ k < w.heap.size := ⟨h.sub k hk, h.lt k (h.sub k hk)⟩

/-- of a head's call: no more than its own mutable blocks turns; what of them is new is a new block -/
structure ApX (o o' : HLoc) (w w' : World) : Prop where
  apart : Apart (fun k => k ∈ blksH o) w w'
  more : ∀ k ∈ blksH o', k ∈ blksH o ∨ w.heap.size ≤ k
theorem ApX.same {o : HLoc} {w w' : World} (h : Below w.heap.size w w') : ApX o o w w' := ⟨below_apart h _, fun _ h => .inl h⟩
theorem ApX.then {o o' : HLoc} {w w1 w2 : World} (h : ApX o o' w w1) (hb : Below w1.heap.size w1 w2) : ApX o o' w w2 := ⟨h.apart.then hb, h.more⟩
theorem ApX.pre {o o' : HLoc} {w w1 w2 : World} (hb : Below w.heap.size w w1) (h : ApX o o' w1 w2) : ApX o o' w w2 :=
  ⟨(below_apart hb _).trans h.apart (fun _ _ h => h), fun k hk => (h.more k hk).imp id (fun h => Nat.le_trans hb.size h)⟩
theorem ApX.trans {o o1 o2 : HLoc} {w w1 w2 : World} (h : ApX o o1 w w1) (k : ApX o1 o2 w1 w2) : ApX o o2 w w2 :=
  ⟨h.apart.trans k.apart (fun i hi hm => (h.more i hm).elim id (fun h => by omega)), fun i hi => (k.more i hi).elim (h.more i) (fun h2 => .inr (Nat.le_trans h.apart.size h2))⟩
def InAddPost (w : World) (X : List Nat) (o : HLoc) (H : Hd) (e : Ending) (w' : World) : Prop :=
  e = .returned (.int .i64 0) ∧ ∃ o' X', InAt w' X' o' H ∧ (o'.hp = o.hp ∧ o'.ib = o.ib) ∧ MoreX w X X' ∧ ApX o o' w w'

theorem in_added {w w1 w2 w3 : World} {X X1 : List Nat} {o : HLoc} {H : Hd} {ref : Int} {l : List Lb} {inner' : List ((ByteArray × ByteArray) × Nat)} {es : Array MapEntry} {c : Nat} (h : InAt w X o H) (hhp : o.hp < w.heap.size)
    (hI : IxAt w1 X1 o.xb (addI H.ix ref l) o.ab o.rb o.hb inner') (hX : MoreX w X X1) (hin : ∀ k ∈ inner'.map (·.2), k ∈ o.inner.map (·.2) ∨ w.heap.size ≤ k) (hA : Apart (fun k => k ∈ [o.ab, o.rb, o.hb] ++ o.inner.map (·.2)) w w1)
    (hg : w1.grownBy w2 (some o.pb)) (hes : w2.heap[o.pb]? = some (.map es c)) (hM : IsMap eU (evP w X) es c (mput H.pts ref [])) (h3 : w3 = w2.setCell ⟨o.ib, 2, none⟩ (.int .u64 (max H.top ref))) :
    InAt w3 X1 { o with inner := inner' } (addH H ref l) ∧ ApX o { o with inner := inner' } w w3 := by
  subst h3
  obtain ⟨m1, m2, m3, m4⟩ := h.mem
  obtain ⟨n1, n2, n3⟩ := h.ne
  have hibl : o.ib < w.heap.size := h.ix.lt _ m1
  have hpbl : o.pb < w.heap.size := h.ix.lt _ m2
  have hA1 : Apart (fun k => k ∈ blksH o) w w1 := hA.mono fun i _ hi => by unfold blksH; exact List.mem_append_right _ hi
  have hA2 : Apart (fun k => k ∈ blksH o) w w2 := hA1.grown hg (fun k hk => by cases hk; exact .inl (pb_mem o))
  have hA3 : Apart (fun k => k ∈ blksH o) w (w2.setCell ⟨o.ib, 2, none⟩ (.int .u64 (max H.top ref))) := hA2.setC _ (.inl (ib_mem o)) _
  have hsub := h.bsub
  have nin : ∀ k, k ∈ [o.ib, o.pb] → k ∉ [o.ab, o.rb, o.hb] ++ inner'.map (·.2) := by
    intro k hk hm
    have hkl : k < w.heap.size := by simp at hk; rcases hk with rfl | rfl <;> assumption
    have hno : k ∉ [o.ab, o.rb, o.hb] ++ o.inner.map (·.2) := by simp only [List.mem_cons, List.mem_nil_iff, or_false] at hk; rcases hk with rfl | rfl <;> assumption
    rcases List.mem_append.1 hm with hm | hm
    · exact hno (List.mem_append_left _ hm)
    · rcases hin k hm with hm | hm
      · exact hno (List.mem_append_right _ hm)
      · omega
  have keep12 : ∀ k, k ≠ o.pb → k < w1.heap.size → w2.heap[k]? = w1.heap[k]? := fun k hne hk => hg.block k hk (fun e => hne (Option.some.inj e))
  have hic2 : w2.heap[o.ib]? = some (.cells #[.pointer (some ⟨o.xb, 0, none⟩), .map (some o.pb), .int .u64 H.top] 95 (0, 0)) := by
    rw [keep12 _ n1 (Nat.lt_of_lt_of_le hibl hA.size), hA.block _ hibl n2]; exact h.ic
  have hxb : o.xb ∉ X1 := hX.out (Array.getElem?_eq_some_iff.1 h.ix.cells).1 m3
  refine ⟨⟨?_, ?_, ?_, ⟨hX.old _ m1, hX.old _ m2, hxb, hX.out hhp m4⟩, ⟨n1, nin _ (by simp), nin _ (by simp)⟩⟩, ⟨hA3, fun k hk => ?_⟩⟩
  · rw [setCell_blk _ hic2]; rfl
  · refine hI.move ?_ (fun k hk hor => ?_) (fun _ _ h => h) (fun _ h => h) (fun k hk => ?_)
    · exact Nat.le_trans hg.size (by simp [World.setCell])
    · have hne : k ≠ o.ib ∧ k ≠ o.pb := by
        rcases hor with hk2 | rfl | hk2
        · exact ⟨fun e => hk2 (e ▸ hX.old _ m1), fun e => hk2 (e ▸ hX.old _ m2)⟩
        · exact ⟨fun e => m3 (e ▸ m1), fun e => m3 (e ▸ m2)⟩
        · exact ⟨fun e => nin k (by simp [e]) hk2, fun e => nin k (by simp [e]) hk2⟩
      rw [Below.heap_setCell _ _ _ _ hne.1, keep12 k hne.2 hk]
    · have := hI.lt k hk
      have := hg.size
      simp [World.setCell]; omega
  · refine ⟨es, c, ?_, hM.imp fun p _ v hv => hv.move hA3.size (fun k hk hkX => hA3.block k hk (fun hm => hkX (hsub k hm))) (fun k hk hkX => hX.out hk hkX)⟩
    rw [Below.heap_setCell _ _ _ _ (Ne.symm n1)]; exact hes
  · unfold blksH at hk ⊢
    rcases List.mem_append.1 hk with hk | hk
    · exact .inl (List.mem_append_left _ hk)
    · rcases List.mem_append.1 hk with hk | hk
      · exact .inl (List.mem_append_right _ (List.mem_append_left _ hk))
      · exact (hin k hk).imp (fun h => List.mem_append_right _ (List.mem_append_right _ h)) id

set_option maxRecDepth 100000 in
set_option maxHeartbeats 400000 in
theorem inner_add_refused {D : Nat → Prop} {X : List Nat} {o : HLoc} {H : Hd} (ref : Int) (v : Value) (l : List Lb) (w : World) (h : InAt w X o H) (hv : SlL w D v l) (hz : SzL l) (hT : Tabs w) (h2 : 2 ≤ w.heap.size) (he : addErr H.ix ref l ≠ 0) :
    Calls Tryz.prog 72 #[.pointer (some ⟨o.ib, 0, none⟩), .int .u64 ref, v] w (RefusedPost w (addErr H.ix ref l)) := by
  have c0 := blk_cell h.ic 0
  simp at c0
  have hc := ix_add_refused ref v l w h.ix hv hz hT h2 he
  have he' : (addErr H.ix ref l != 0) = true := by simpa using he
  unfold RefusedPost at hc ⊢
  clear h hv hz hT he
  generalize addErr H.ix ref l = q at *
  go_enter Tryz.func72, Tryz.ntmps72
  go_wp2_with fail
  refine hc.mono ?_
  rintro e w1 ⟨rfl, hB⟩
  go_wp2
  go_ret
  exact ⟨rfl, hB⟩
set_option maxRecDepth 100000 in
set_option maxHeartbeats 400000 in
theorem inner_add {X : List Nat} {o : HLoc} {H : Hd} (ref : Int) (v : Value) (l : List Lb) (w : World) (h : InAt w X o H) (hhp : o.hp < w.heap.size) (hv : SlL w (fun k => k ∉ X) v l) (hz : SzL l) (hT : Tabs w) (h2 : 2 ≤ w.heap.size) (he : addErr H.ix ref l = 0) :
    Calls Tryz.prog 72 #[.pointer (some ⟨o.ib, 0, none⟩), .int .u64 ref, v] w (InAddPost w X o (addH H ref l)) := by
  have c0 := blk_cell h.ic 0
  simp at c0
  have hc := ix_add ref v l w h.ix h.mem.2.2.1 hv hz hT h2 he
  obtain ⟨es, c, hp, hM⟩ := h.pts
  have HM := Lib.hid hM
  have HP := Lib.hid hp
  have HH := Lib.hid h
  have Hhp := Lib.hid hhp
  have HC := Lib.hid hc
  clear h hv hz hT he hM hc hp hhp
  go_enter Tryz.func72, Tryz.ntmps72
  go_wp2_with fail
  refine HC.out.mono ?_
  rintro e w1 ⟨rfl, inner', X', hI, x1, x2, x3, hA⟩
  have hib1 : w1.heap[o.ib]? = some (.cells #[.pointer (some ⟨o.xb, 0, none⟩), .map (some o.pb), .int .u64 H.top] 95 (0, 0)) := by
    rw [hA.block _ (HH.out.ix.lt _ HH.out.mem.1) HH.out.ne.2.1]; exact HH.out.ic
  have hpb1 : w1.heap[o.pb]? = some (.map es c) := by
    rw [hA.block _ (HH.out.ix.lt _ HH.out.mem.2.1) HH.out.ne.2.2]; exact HP.out
  have d1 := blk_cell hib1 1
  have d2 := blk_cell hib1 2
  simp at d1 d2
  have HI := Lib.hid hI
  have HX1 := Lib.hid x1
  have HX2 := Lib.hid x2
  have HX3 := Lib.hid x3
  have HA := Lib.hid hA
  have HEV : Hid (evP w X [] (.slice none 0 0)) := Lib.hid ⟨Slc.nil _ _ _ _, by simp⟩
  have NE : Hid (some o.ib ≠ some o.pb) := Lib.hid (fun e => HH.out.ne.1 (Option.some.inj e))
  clear hI x1 x2 x3 hA c0
  go_wp2_with (first | (at_mapUpdate; refine wpList_update_raw rfl _ _ _ 88 _ _ rfl keyU Tryz.underlying88 o.pb hpb1 HM.out rfl ref rfl trivial (fun _ _ => trivial) [] _ rfl HEV.out ?_; intro w3 es3 cl3 hes hM3 hg3 hs3; have HES := Lib.hid hes; have HM3 := Lib.hid hM3; have HG3 := Lib.hid hg3; have hib3 := blk_grown hib1 hg3 NE.out; have f2 := free_blk (i := 2) hib3; have q2 := blk_cell hib3 2; simp at q2; clear hes hM3 hg3 hs3))
  go_ret
  obtain ⟨r1, r2⟩ := in_added HH.out Hhp.out HI.out ⟨HX1.out, HX2.out⟩ HX3.out HA.out HG3.out HES.out HM3.out rfl
  exact ⟨rfl, _, _, r1, ⟨rfl, rfl⟩, ⟨HX1.out, HX2.out⟩, r2⟩
end Go.Proofs.YtbjglcdoekbloaaGreatDoor

/- head.Head.Get. -/
namespace Go.Proofs.YtbjglcdoekbloaaGreatDoor
open Go.RowKit Go.Proofs.YtbjglcdoekbloaaGreatDoor.MapRaw Go.ChangeMaps

theorem zeroPoints (w : World) : (zeroValue 54).run Tryz.prog w = .ok (.slice none 0 0) w := by kernel_rfl
/-- what is looked up in the map of points -/
theorem pts_look {w : World} {X : List Nat} {pb : Nat} {m : List (Int × List Pt)} (h : MapAt w eU (evP w X) pb m) (ref : Int) :
    ∃ es c v, w.heap[pb]? = some (.map es c) ∧ IsMap eU (evP w X) es c m ∧ evP w X ((mget m ref).getD []) v ∧ ∀ W : World, W.heap[pb]? = some (.map es c) → (Instr.lookup 88 (.map (some pb)) (.int .u64 ref) false).run Tryz.prog W = .ok v W := by
  obtain ⟨es, c, ho, hM⟩ := h
  obtain ⟨v, _, h1, h2, h3⟩ := lookup_all keyU Tryz.underlying88 zeroPoints pb hM (a := ref) trivial (fun _ _ => trivial)
  refine ⟨es, c, v, ho, hM, ?_, h1⟩
  cases hg : mget m ref with
  | none => rw [h2 hg]; exact ⟨Slc.nil _ _ _ _, by simp⟩
  | some l => exact h3 l hg
def getF (H : Hd) (l : List Lb) : Option (List Pt) := (refF H.ix l).map fun ref => (mget H.pts ref).getD []
def GetPost (w : World) (r : Option (List Pt)) (e : Ending) (w' : World) : Prop :=
  ∃ v, e = .returned (.tuple #[v, .bool r.isSome]) ∧ SlP w' (fun k => w.heap.size ≤ k) v (r.getD []) ∧ Below w.heap.size w w'

set_option maxRecDepth 100000 in
set_option maxHeartbeats 400000 in
theorem head_get {D : Nat → Prop} {X : List Nat} {o : HLoc} {H : Hd} (v : Value) (l : List Lb) (w : World) (h : HeadAt w X o H) (hv : SlL w D v l) (hz : SzL l) (hT : Tabs w) (h2 : 2 ≤ w.heap.size) :
    Calls Tryz.prog 18 #[.pointer (some ⟨o.hp, 0, none⟩), v] w (GetPost w (getF H l)) := by
  have c0 := blk_cell h.hc 0
  have i0 := blk_cell h.inn.ic 0
  have i1 := blk_cell h.inn.ic 1
  simp at c0 i0 i1
  have hr := ix_ref v l w h.inn.ix hv hz hT h2
  unfold RefPost at hr
  unfold getF
  cases hrf : refF H.ix l with
  | none =>
    rw [hrf] at hr
    simp only [Option.getD_none, Option.isSome_none] at hr
    clear h hv hz hT hrf
    go_enter Tryz.func18, Tryz.ntmps18
    go_wp2_with fail
    refine (head_is _ _ _ c0).mono ?_
    rintro e w' ⟨rfl, rfl⟩
    go_wp2_with fail
    refine hr.mono ?_
    rintro e w1 ⟨rfl, hB⟩
    go_wp2
    go_ret2
    exact ⟨_, rfl, Slc.nil _ _ _ _, hB⟩
  | some ref =>
    rw [hrf] at hr
    simp only [Option.getD_some, Option.isSome_some] at hr
    simp only [Option.map_some]
    obtain ⟨es, c, pv, hpb, _, hev, hlk⟩ := pts_look h.inn.pts ref
    obtain ⟨lp, hlp⟩ : ∃ lp, lp = (mget H.pts ref).getD [] := ⟨_, rfl⟩
    rw [← hlp] at hev ⊢
    have hcall : ∀ W, Below w.heap.size w W → Calls Tryz.prog 59 #[pv] W (OwnedPost W lp) := fun W hW => head_owned pv lp W (Slc.below hev.1 hW) (by have := hev.2; omega)
    unfold OwnedPost at hcall
    have HC := Lib.hid hcall
    clear h hv hz hT hrf hev hlp hcall
    go_enter Tryz.func18, Tryz.ntmps18
    go_wp2_with fail
    refine (head_is _ _ _ c0).mono ?_
    rintro e w' ⟨rfl, rfl⟩
    go_wp2_with fail
    refine hr.mono ?_
    rintro e w1 ⟨rfl, hB⟩
    have d0 := later hB c0
    have e0 := later hB i0
    have e1 := later hB i1
    have hl1 := hlk w1 (blk_below hpb hB)
    go_wp2_with fail
    refine (HC.out _ hB).mono ?_
    rintro e w2 ⟨v2, rfl, hs, hB2⟩
    go_wp2
    go_ret2
    exact ⟨_, rfl, hs.mono (fun k _ hk => Nat.le_trans hB.size hk), bthen hB hB2⟩
end Go.Proofs.YtbjglcdoekbloaaGreatDoor

/- head.inner.series. -/
namespace Go.Proofs.YtbjglcdoekbloaaGreatDoor
open Go.RowKit Go.Proofs.YtbjglcdoekbloaaGreatDoor.MapRaw Go.ChangeMaps

def addR (H : Hd) (ref : Int) (lab : List Lb) : Int × Hd := if addErr H.ix ref lab ≠ 0 then (addErr H.ix ref lab, H) else (0, addH H ref lab)
def seriesF (H : Hd) (ref : Int) (lab : List Lb) : Int × Hd := if mget H.ix.all ref = some lab then (0, H) else addR H ref lab
/-- the head turned -/
def TurnPost (w : World) (X : List Nat) (o : HLoc) (r : Int × Hd) (e : Ending) (w' : World) : Prop :=
  e = .returned (.int .i64 r.1) ∧ ∃ o' X', InAt w' X' o' r.2 ∧ (o'.hp = o.hp ∧ o'.ib = o.ib) ∧ MoreX w X X' ∧ ApX o o' w w'
theorem TurnPost.same {w w' : World} {X : List Nat} {o : HLoc} {H : Hd} {n : Int} {e : Ending} (he : e = .returned (.int .i64 n)) (h : InAt w X o H) (hB : Below w.heap.size w w') : TurnPost w X o (n, H) e w' :=
  ⟨he, o, X, h.below hB, ⟨rfl, rfl⟩, MoreX.refl _ _, ApX.same hB⟩
theorem TurnPost.then {w w1 w' : World} {X : List Nat} {o : HLoc} {r : Int × Hd} {e e' : Ending} (hB : Below w.heap.size w w1) (h : TurnPost w1 X o r e w') (hX : ∀ k ∈ X, k < w.heap.size) (he : e' = e) : TurnPost w X o r e' w' := by
  obtain ⟨h0, o', X', h1, h2, h3, h4⟩ := h
  exact ⟨he.trans h0, o', X', h1, h2, ⟨h3.old, fun k hk => (h3.new k hk).elim .inl (fun h => .inr (Nat.le_trans hB.size h))⟩, h4.pre hB⟩

set_option maxRecDepth 100000 in
set_option maxHeartbeats 1000000 in
theorem inner_series {X : List Nat} {o : HLoc} {H : Hd} (k : Int) (ref : Int) (lv pv : Value) (lab : List Lb) (w : World) (h : InAt w X o H) (hhp : o.hp < w.heap.size) (hv : SlL w (fun k => k ∉ X) lv lab) (hz : SzL lab) (hT : Tabs w) (h2 : 2 ≤ w.heap.size) (hw : IntKind.u64.wrap ref = ref) :
    Calls Tryz.prog 63 #[.pointer (some ⟨o.ib, 0, none⟩), .agg #[.int .i64 k, .int .u32 ref, lv, pv]] w (TurnPost w X o (seriesF H ref lab)) := by
  have i0 := blk_cell h.ic 0
  simp at i0
  have hlt := h.ix.lt
  have hL := fun (W : World) (hW : Below w.heap.size w W) => ix_labels ref W (h.ix.below hW)
  unfold LabelsPost at hL
  have HL := Lib.hid hL
  have HH := Lib.hid h
  have HV := Lib.hid hv
  have HT := Lib.hid hT
  have HZ := Lib.hid hz
  have Hhp := Lib.hid hhp
  have HX := Lib.hid hlt
  clear hL
  have hsm : ∀ (W : World) (v1 : Value) (l1 : List Lb) (D : Nat → Prop), l1.length ≤ 100 → Below w.heap.size w W → SlL W D v1 l1 → Calls Tryz.prog 76 #[v1, lv] W fun e w' => e = .returned (.bool (decide (l1 = lab))) ∧ Below W.heap.size W w' := by
    intro W v1 l1 D hl1 hW h1
    obtain ⟨A, c, rfl, a1, a2, a3, a4, a5⟩ := h1
    obtain ⟨B, d, rfl, b1, b2, b3, b4, b5⟩ := hv.below hW
    exact labels_same A B c d l1 lab W a5 b5 (by unfold maxLen; omega) (Nat.le_trans b1 b2)
  have hl100 : ((mget H.ix.all ref).getD []).length ≤ 100 := by
    cases hg : mget H.ix.all ref with
    | none => simp
    | some l =>
      obtain ⟨es, c, _, hM⟩ := h.ix.all
      obtain ⟨i, hi⟩ := List.getElem?_of_mem (mget_mem hg)
      have hil : i < es.toList.length := by rw [hM.len]; exact (List.getElem?_eq_some_iff.1 hi).1
      exact (hM.vals i _ _ (List.getElem?_eq_getElem hil) hi).2
  obtain ⟨l1, hl1⟩ : ∃ l1, l1 = (mget H.ix.all ref).getD [] := ⟨_, rfl⟩
  obtain ⟨b1, hb1⟩ : ∃ b1, b1 = (mget H.ix.all ref).isSome := ⟨_, rfl⟩
  rw [← hl1, ← hb1] at HL
  rw [← hl1] at hl100
  have hS := fun (W : World) (v1 : Value) (D : Nat → Prop) (hW : Below w.heap.size w W) (h1 : SlL W D v1 l1) => hsm W v1 l1 D hl100 hW h1
  have HS := Lib.hid hS
  clear hsm hS hl100
  have key : (b1 = true ∧ decide (l1 = lab) = true ∧ seriesF H ref lab = (0, H)) ∨ (b1 = false ∧ seriesF H ref lab = addR H ref lab) ∨ (b1 = true ∧ decide (l1 = lab) = false ∧ seriesF H ref lab = addR H ref lab) := by
    unfold seriesF
    cases hg : mget H.ix.all ref with
    | none => rw [hg] at hb1; exact .inr (.inl ⟨hb1, by simp⟩)
    | some l =>
      rw [hg] at hb1 hl1
      simp only [Option.getD_some] at hl1
      subst hl1
      by_cases e : l1 = lab
      · exact .inl ⟨hb1, by simp [e], by simp [e]⟩
      · exact .inr (.inr ⟨hb1, by simp [e], by simp [e]⟩)
  rcases key with ⟨rfl, k2, k3⟩ | hkey
  · rw [k3]
    rw [k2] at HS
    clear h hv hz hT hhp hlt hl1 hb1 k2 k3
    go_enter Tryz.func63, Tryz.ntmps63
    go_wp2
    have HB0 : Below w.heap.size w (w.alloc (.cells #[.int .i64 k, .int .u32 ref, lv, pv] 45)) := balloc (Below.refl _ _) _
    have a1 : (w.alloc (.cells #[.int .i64 k, .int .u32 ref, lv, pv] 45)).cell? ⟨w.heap.size, 1, none⟩ = some (.int .u32 ref) := by simp
    have a2 : (w.alloc (.cells #[.int .i64 k, .int .u32 ref, lv, pv] 45)).cell? ⟨w.heap.size, 2, none⟩ = some lv := by simp
    have a0 := later HB0 i0
    generalize w.alloc (.cells #[.int .i64 k, .int .u32 ref, lv, pv] 45) = W at *
    have e0 : W.drew.cell? ⟨o.ib, 0, none⟩ = some (.pointer (some ⟨o.xb, 0, none⟩)) := a0
    have e1 : W.drew.cell? ⟨w.heap.size, 1, none⟩ = some (.int .u32 ref) := a1
    have e2 : W.drew.cell? ⟨w.heap.size, 2, none⟩ = some lv := a2
    have HB1 := Lib.hid (bdrew HB0)
    clear HB0 i0 a0 a1 a2
    go_region_held3 (fun w' => w'.cell? ⟨o.ib, 0, none⟩ = some (.pointer (some ⟨o.xb, 0, none⟩)) ∧ w'.cell? ⟨w.heap.size, 1, none⟩ = some (.int .u32 ref) ∧ w'.cell? ⟨w.heap.size, 2, none⟩ = some lv) (first | exact ⟨e0, e1, e2⟩ | exact ⟨later hb' e0, later hb' e1, later hb' e2⟩)
      (first | (go_at_call 54; refine (HL.out _ HB1.out).mono ?_; rintro e w' ⟨v1, rfl, h1, hb'⟩))
    have g0 := later hb' e0
    have g1 := later hb' e1
    have g2 := later hb' e2
    go_wp2_with (first | (go_at_call 76; refine (HS.out _ _ _ (bthen HB1.out hb') h1).mono ?_; rintro e w2 ⟨rfl, hB2⟩))
    go_ret
    exact TurnPost.same rfl HH.out (bthen (bthen HB1.out hb') hB2)
  · have hadd : ∀ (W : World), Below w.heap.size w W → Calls Tryz.prog 72 #[.pointer (some ⟨o.ib, 0, none⟩), .int .u64 ref, lv] W (TurnPost W X o (addR H ref lab)) := by
      intro W hW
      unfold addR
      by_cases hz2 : addErr H.ix ref lab ≠ 0
      · rw [if_pos hz2]
        refine (inner_add_refused ref lv lab W (h.below hW) (hv.below hW) hz (hT.below hW h2) (Nat.le_trans h2 hW.size) hz2).mono ?_
        rintro e w' ⟨rfl, hB⟩
        exact TurnPost.same rfl (h.below hW) hB
      · rw [if_neg hz2]
        exact inner_add ref lv lab W (h.below hW) (Nat.lt_of_lt_of_le hhp hW.size) (hv.below hW) hz (hT.below hW h2) (Nat.le_trans h2 hW.size) (by simpa using hz2)
    have HA := Lib.hid hadd
    clear hadd
    rcases hkey with ⟨rfl, k3⟩ | ⟨rfl, k2, k3⟩
    · rw [k3]
      clear h hv hz hT hhp hlt hl1 hb1 k3
      go_enter Tryz.func63, Tryz.ntmps63
      go_wp2
      have HB0 : Below w.heap.size w (w.alloc (.cells #[.int .i64 k, .int .u32 ref, lv, pv] 45)) := balloc (Below.refl _ _) _
      have a1 : (w.alloc (.cells #[.int .i64 k, .int .u32 ref, lv, pv] 45)).cell? ⟨w.heap.size, 1, none⟩ = some (.int .u32 ref) := by simp
      have a2 : (w.alloc (.cells #[.int .i64 k, .int .u32 ref, lv, pv] 45)).cell? ⟨w.heap.size, 2, none⟩ = some lv := by simp
      have a0 := later HB0 i0
      generalize w.alloc (.cells #[.int .i64 k, .int .u32 ref, lv, pv] 45) = W at *
      have e0 : W.drew.cell? ⟨o.ib, 0, none⟩ = some (.pointer (some ⟨o.xb, 0, none⟩)) := a0
      have e1 : W.drew.cell? ⟨w.heap.size, 1, none⟩ = some (.int .u32 ref) := a1
      have e2 : W.drew.cell? ⟨w.heap.size, 2, none⟩ = some lv := a2
      have HB1 := Lib.hid (bdrew HB0)
      clear HB0 i0 a0 a1 a2
      go_region_held3 (fun w' => w'.cell? ⟨o.ib, 0, none⟩ = some (.pointer (some ⟨o.xb, 0, none⟩)) ∧ w'.cell? ⟨w.heap.size, 1, none⟩ = some (.int .u32 ref) ∧ w'.cell? ⟨w.heap.size, 2, none⟩ = some lv) (first | exact ⟨e0, e1, e2⟩ | exact ⟨later hb' e0, later hb' e1, later hb' e2⟩)
        (first | (go_at_call 54; refine (HL.out _ HB1.out).mono ?_; rintro e w' ⟨v1, rfl, h1, hb'⟩))
      have g0 := later hb' e0
      have g1 := later hb' e1
      have g2 := later hb' e2
      go_wp2_with (first | (go_at_call 72; refine (HA.out _ (bthen HB1.out hb')).mono ?_; rintro e w2 ⟨rfl, hrest⟩; have HRest := Lib.hid hrest; clear hrest))
      go_ret
      exact TurnPost.then (bthen HB1.out hb') ⟨rfl, HRest.out⟩ HX.out rfl
    · rw [k3]
      rw [k2] at HS
      clear h hv hz hT hhp hlt hl1 hb1 k2 k3
      go_enter Tryz.func63, Tryz.ntmps63
      go_wp2
      have HB0 : Below w.heap.size w (w.alloc (.cells #[.int .i64 k, .int .u32 ref, lv, pv] 45)) := balloc (Below.refl _ _) _
      have a1 : (w.alloc (.cells #[.int .i64 k, .int .u32 ref, lv, pv] 45)).cell? ⟨w.heap.size, 1, none⟩ = some (.int .u32 ref) := by simp
      have a2 : (w.alloc (.cells #[.int .i64 k, .int .u32 ref, lv, pv] 45)).cell? ⟨w.heap.size, 2, none⟩ = some lv := by simp
      have a0 := later HB0 i0
      generalize w.alloc (.cells #[.int .i64 k, .int .u32 ref, lv, pv] 45) = W at *
      have e0 : W.drew.cell? ⟨o.ib, 0, none⟩ = some (.pointer (some ⟨o.xb, 0, none⟩)) := a0
      have e1 : W.drew.cell? ⟨w.heap.size, 1, none⟩ = some (.int .u32 ref) := a1
      have e2 : W.drew.cell? ⟨w.heap.size, 2, none⟩ = some lv := a2
      have HB1 := Lib.hid (bdrew HB0)
      clear HB0 i0 a0 a1 a2
      go_region_held3 (fun w' => w'.cell? ⟨o.ib, 0, none⟩ = some (.pointer (some ⟨o.xb, 0, none⟩)) ∧ w'.cell? ⟨w.heap.size, 1, none⟩ = some (.int .u32 ref) ∧ w'.cell? ⟨w.heap.size, 2, none⟩ = some lv) (first | exact ⟨e0, e1, e2⟩ | exact ⟨later hb' e0, later hb' e1, later hb' e2⟩)
        (first | (go_at_call 54; refine (HL.out _ HB1.out).mono ?_; rintro e w' ⟨v1, rfl, h1, hb'⟩))
      have g0 := later hb' e0
      have g1 := later hb' e1
      have g2 := later hb' e2
      go_wp2_with fail
      refine (HS.out _ _ _ (bthen HB1.out hb') h1).mono ?_
      rintro e w2 ⟨rfl, hB2⟩
      have m0 := later hB2 g0
      have m1 := later hB2 g1
      have m2 := later hB2 g2
      go_wp2_with (first | (go_at_call 72; refine (HA.out _ (bthen (bthen HB1.out hb') hB2)).mono ?_; rintro e w3 ⟨rfl, hrest⟩; have HRest := Lib.hid hrest; clear hrest))
      go_ret
      exact TurnPost.then (bthen (bthen HB1.out hb') hB2) ⟨rfl, HRest.out⟩ HX.out rfl
end Go.Proofs.YtbjglcdoekbloaaGreatDoor

/- laws for head.Record: what it comes to. -/
namespace Go.Proofs.YtbjglcdoekbloaaGreatDoor
open Go.RowKit Go.Proofs.YtbjglcdoekbloaaGreatDoor.MapRaw Go.ChangeMaps

/-- a number of a series -/
def U32 (n : Int) : Prop := 0 ≤ n ∧ n < 4294967296
theorem U32.wrap {n : Int} (h : U32 n) : IntKind.u64.wrap n = n := by
  obtain ⟨h1, h2⟩ := h
  unfold IntKind.wrap
  simp [IntKind.bits, IntKind.signed]
  omega
structure AnyTo {α : Type} (f : α → Bool) (l : List α) (k : Nat) : Prop where
  eq : l.any f = (l.drop k).any f
theorem AnyTo.start {α : Type} (f : α → Bool) (l : List α) : AnyTo f l 0 := ⟨rfl⟩
theorem AnyTo.round {α : Type} {f : α → Bool} {l : List α} {k : Nat} (h : AnyTo f l k) (hk : k < l.length) : (f l[k] = true ∧ l.any f = true) ∨ (f l[k] = false ∧ AnyTo f l (k + 1)) := by
  have e := h.eq
  rw [List.drop_eq_getElem_cons hk, List.any_cons] at e
  cases hb : f l[k] with
  | true => rw [hb] at e; exact .inl ⟨rfl, by simpa using e⟩
  | false => rw [hb] at e; exact .inr ⟨rfl, ⟨by simpa using e⟩⟩
theorem AnyTo.done {α : Type} {f : α → Bool} {l : List α} {k : Nat} (h : AnyTo f l k) (hk : ¬ k < l.length) : l.any f = false := by
  rw [h.eq, List.drop_of_length_le (by omega)]; rfl

/-- how often each number stands in a list -/
def moreF (l : List Int) : List (Int × Int) := l.foldl (fun m r => mput m r ((mget m r).getD 0 + 1)) []
def cntF (l : List Int) (r : Int) : Nat := (l.filter fun x => decide (x = r)).length
theorem moreF_add (l : List Int) (r : Int) : moreF (l ++ [r]) = mput (moreF l) r ((mget (moreF l) r).getD 0 + 1) := by
  unfold moreF; rw [List.foldl_append]; rfl
theorem moreF_from (r : Int) : ∀ (l : List Int) (m : List (Int × Int)), (mget (l.foldl (fun m r => mput m r ((mget m r).getD 0 + 1)) m) r).getD 0 = (mget m r).getD 0 + (cntF l r : Int)
  | [], m => by simp [cntF]
  | a :: l, m => by
    rw [List.foldl_cons, moreF_from r l, mget_put]
    unfold cntF
    by_cases e : a = r
    · subst e; simp; omega
    · simp [e]
theorem moreF_get (r : Int) (l : List Int) : (mget (moreF l) r).getD 0 = (cntF l r : Int) := by
  have := moreF_from r l []
  simpa [mget, moreF] using this
theorem moreF_take (l : List En) (k : Nat) (hk : k < l.length) : moreF ((l.take (k + 1)).map En.ref) = mput (moreF ((l.take k).map En.ref)) l[k].ref ((mget (moreF ((l.take k).map En.ref)) l[k].ref).getD 0 + 1) := by
  rw [List.take_succ_eq_append_getElem hk, List.map_append]; exact moreF_add _ _

def putAll : List En → List (Int × List Pt) → Int × List (Int × List Pt)
  | [], m => (0, m)
  | x :: r, m => if (putF ((mget m x.ref).getD []) x.p).2.2 ≠ 0 then ((putF ((mget m x.ref).getD []) x.p).2.2, m) else putAll r (mput m x.ref (putF ((mget m x.ref).getD []) x.p).1)
def lostB (H : Hd) (x : En) : Bool := (mget H.ix.all x.ref).isNone
def muchB (H : Hd) (l : List En) (x : En) : Bool := decide ((65536 : Int) < (((mget H.pts x.ref).getD []).length : Int) + (cntF (l.map En.ref) x.ref : Int))
def ptsF (H : Hd) (l : List En) : Int × Hd :=
  if l.any (lostB H) = true then (101, H) else if l.any (muchB H l) = true then (5, H) else ((putAll l H.pts).1, ⟨H.ix, (putAll l H.pts).2, H.top⟩)
def recordF (H : Hd) (r : Rec) : Int × Hd :=
  if checkF r ≠ 0 then (checkF r, H) else if r.kind = 1 then seriesF H r.ref r.lab else ptsF H r.pts

theorem putF_len {l : List Pt} {p : Pt} (h : l.length ≤ 65536) : (putF l p).1.length ≤ 65536 := by
  unfold putF
  by_cases h1 : p.S = 0 ∨ rightP l = false
  · rw [if_pos h1]; exact h
  · rw [if_neg h1]
    by_cases h2 : hasP l p.T = false
    · rw [if_pos h2]
      by_cases h3 : 65536 ≤ l.length
      · rw [if_pos h3]; exact h
      · rw [if_neg h3]
        simp
        omega
    · rw [if_neg h2]
      by_cases h3 : p = (l[lowP l p.T]?.getD p) ∨ aheadB p (l[lowP l p.T]?.getD p) = false
      · rw [if_pos h3]; exact h
      · rw [if_neg h3]; simpa using h

structure PutTo (l : List En) (m0 : List (Int × List Pt)) (k : Nat) (m : List (Int × List Pt)) : Prop where
  eq : putAll l m0 = putAll (l.drop k) m
theorem PutTo.start (l : List En) (m0 : List (Int × List Pt)) : PutTo l m0 0 m0 := ⟨rfl⟩
theorem PutTo.round {l : List En} {m0 m : List (Int × List Pt)} {k : Nat} (h : PutTo l m0 k m) (hk : k < l.length) {r : List Pt × Int × Int} (hr : putF ((mget m l[k].ref).getD []) l[k].p = r) :
    (r.2.2 ≠ 0 ∧ putAll l m0 = (r.2.2, m)) ∨ (r.2.2 = 0 ∧ PutTo l m0 (k + 1) (mput m l[k].ref r.1)) := by
  have e := h.eq
  rw [List.drop_eq_getElem_cons hk, putAll, hr] at e
  by_cases h1 : r.2.2 = 0
  · rw [if_neg (by simpa using h1)] at e
    exact .inr ⟨h1, ⟨e⟩⟩
  · rw [if_pos h1] at e
    exact .inl ⟨h1, e⟩
theorem PutTo.done {l : List En} {m0 m : List (Int × List Pt)} {k : Nat} (h : PutTo l m0 k m) (hk : ¬ k < l.length) : putAll l m0 = (0, m) := by
  rw [h.eq, List.drop_of_length_le (by omega)]; rfl
end Go.Proofs.YtbjglcdoekbloaaGreatDoor

/- head.Head.Record. -/
namespace Go.Proofs.YtbjglcdoekbloaaGreatDoor
open Go.RowKit Go.Proofs.YtbjglcdoekbloaaGreatDoor.MapRaw Go.ChangeMaps

/-- what is looked up in 'more' -/
theorem more_look {w : World} {mb : Nat} {m : List (Int × Int)} (h : MapAt w eU evN mb m) (ref : Int) :
    ∃ es c, w.heap[mb]? = some (.map es c) ∧ IsMap eU evN es c m ∧ ∀ W : World, W.heap[mb]? = some (.map es c) → (Instr.lookup 90 (.map (some mb)) (.int .u64 ref) false).run Tryz.prog W = .ok (.int .i64 ((mget m ref).getD 0)) W := by
  obtain ⟨es, c, ho, hM⟩ := h
  obtain ⟨v, _, h1, h2, h3⟩ := lookup_all keyU Tryz.underlying90 zeroInt mb hM (a := ref) trivial (fun _ _ => trivial)
  refine ⟨es, c, ho, hM, ?_⟩
  have hv : v = .int .i64 ((mget m ref).getD 0) := by
    cases hg : mget m ref with
    | none => exact h2 hg
    | some n => exact h3 n hg
  rw [← hv]; exact h1

theorem TurnPost.alloc {w w1 w' : World} {X : List Nat} {o : HLoc} {r : Int × Hd} {e : Ending} (hB : Below w.heap.size w w1) (h : TurnPost w1 X o r e w') (hX : ∀ k ∈ X, k < w.heap.size) : TurnPost w X o r e w' := TurnPost.then hB h hX rfl

theorem Apart.cell {P : Nat → Prop} {w w' : World} (h : Apart P w w') {g i : Nat} (hg : ¬ P g) {v : Value} (hc : w.cell? ⟨g, i, none⟩ = some v) : w'.cell? ⟨g, i, none⟩ = some v := by
  have hlt : g < w.heap.size := World.block_lt_of_cell? w ⟨g, i, none⟩ hc
  have hh := h.block g hlt hg
  unfold World.cell? at *
  rw [hh]; exact hc
def TurnRest (w : World) (X : List Nat) (o : HLoc) (H : Hd) (w' : World) : Prop := ∃ o' X', InAt w' X' o' H ∧ (o'.hp = o.hp ∧ o'.ib = o.ib) ∧ MoreX w X X' ∧ ApX o o' w w'
theorem TurnRest.cell {w w' : World} {X : List Nat} {o : HLoc} {H : Hd} (h : TurnRest w X o H w') (hs : ∀ k ∈ blksH o, k ∈ X) {g i : Nat} (hg : g ∉ X) {v : Value} (hc : w.cell? ⟨g, i, none⟩ = some v) : w'.cell? ⟨g, i, none⟩ = some v := by
  obtain ⟨_, _, _, _, _, hA⟩ := h
  exact hA.apart.cell (fun hm => hg (hs _ hm)) hc
set_option maxRecDepth 100000 in
set_option maxHeartbeats 1000000 in
theorem head_record1 {X : List Nat} {o : HLoc} {H : Hd} (r : Rec) (lv pv : Value) (w : World) (h : HeadAt w X o H) (hl : SlL w (fun k => k ∉ X) lv r.lab) (hp : SlE w (fun k => k ∉ X) pv r.pts) (hz : SzL r.lab) (hT : Tabs w) (h2 : 2 ≤ w.heap.size) (hr : U32 r.ref) (hk : checkF r ≠ 0 ∨ r.kind = 1) :
    Calls Tryz.prog 21 #[.pointer (some ⟨o.hp, 0, none⟩), .agg #[.int .i64 r.kind, .int .u32 r.ref, lv, pv]] w (TurnPost w X o (recordF H r)) := by
  have c0 := blk_cell h.hc 0
  simp at c0
  have hlt := h.inn.ix.lt
  have hck := fun (W : World) (hW : Below w.heap.size w W) => record_check r lv pv W (hl.below hW) (hp.below hW) hz (hT.below hW h2) (Nat.le_trans h2 hW.size)
  have hhp : o.hp < w.heap.size := (Array.getElem?_eq_some_iff.1 h.hc).1
  have hse := fun (W : World) (hW : Below w.heap.size w W) => inner_series r.kind r.ref lv pv r.lab W (h.inn.below hW) (Nat.lt_of_lt_of_le hhp hW.size) (hl.below hW) hz (hT.below hW h2) (Nat.le_trans h2 hW.size) hr.wrap
  have HCK := Lib.hid hck
  have HSE := Lib.hid hse
  have HX := Lib.hid hlt
  have HI := Lib.hid h.inn
  by_cases h0 : checkF r ≠ 0
  · have e : recordF H r = (checkF r, H) := by unfold recordF; rw [if_pos h0]
    rw [e]
    have h0' : (checkF r != 0) = true := by simpa using h0
    generalize checkF r = q at *
    clear e hlt hck hse hhp h hl hp hz hT hr hk h0
    go_enter Tryz.func21, Tryz.ntmps21
    have HB0 : Below w.heap.size w (w.alloc (.cells #[.int .i64 r.kind, .int .u32 r.ref, lv, pv] 45)) := balloc (Below.refl _ _) _
    have a0 := later HB0 c0
    go_wp2_with fail
    refine (head_is _ _ _ a0).mono ?_
    rintro e w' ⟨rfl, rfl⟩
    go_wp2_with fail
    refine (HCK.out _ HB0).mono ?_
    rintro e w1 ⟨rfl, hB1⟩
    go_wp2
    go_ret
    exact TurnPost.same rfl HI.out (bthen HB0 hB1)
  · have h00 : checkF r = 0 := by simpa using h0
    have h1 : r.kind = 1 := hk.resolve_left h0
    have e : recordF H r = seriesF H r.ref r.lab := by unfold recordF; rw [if_neg h0, if_pos h1]
    rw [e]
    rw [h00] at HCK
    rw [h1] at HCK HSE ⊢
    clear e hlt hck hse hhp h hl hp hz hT hr hk h0 h00 h1
    go_enter Tryz.func21, Tryz.ntmps21
    have HB0 : Below w.heap.size w (w.alloc (.cells #[.int .i64 1, .int .u32 r.ref, lv, pv] 45)) := balloc (Below.refl _ _) _
    have a0 := later HB0 c0
    go_wp2_with fail
    refine (head_is _ _ _ a0).mono ?_
    rintro e w' ⟨rfl, rfl⟩
    go_wp2_with fail
    refine (HCK.out _ HB0).mono ?_
    rintro e w1 ⟨rfl, hB1⟩
    obtain ⟨d0, d1, d2, d3, hB, _⟩ := new4 hB1
    have b0 := later hB1 a0
    go_wp2
    have y0 : w1.drew.cell? ⟨w.heap.size, 0, none⟩ = some (.int .i64 1) := d0
    have y1 : w1.drew.cell? ⟨w.heap.size, 1, none⟩ = some (.int .u32 r.ref) := d1
    have y2 : w1.drew.cell? ⟨w.heap.size, 2, none⟩ = some lv := d2
    have y3 : w1.drew.cell? ⟨w.heap.size, 3, none⟩ = some pv := d3
    have y4 : w1.drew.cell? ⟨o.hp, 0, none⟩ = some (.pointer (some ⟨o.ib, 0, none⟩)) := b0
    have HB1 := Lib.hid (bdrew hB)
    have N0 : Hid (w.heap.size ∉ X) := Lib.hid fun hm => by have := HX.out _ hm; omega
    clear d0 d1 d2 d3 b0 a0 hB1 HB0 c0 hB
    go_region_held3 (fun w' => w'.cell? ⟨o.hp, 0, none⟩ = some (.pointer (some ⟨o.ib, 0, none⟩)) ∧ w'.cell? ⟨w.heap.size, 0, none⟩ = some (.int .i64 1) ∧ w'.cell? ⟨w.heap.size, 1, none⟩ = some (.int .u32 r.ref) ∧ w'.cell? ⟨w.heap.size, 2, none⟩ = some lv ∧ w'.cell? ⟨w.heap.size, 3, none⟩ = some pv) (first | exact ⟨y4, y0, y1, y2, y3⟩ | exact ⟨HRest.out.cell HI.out.bsub HI.out.mem.2.2.2 y4, HRest.out.cell HI.out.bsub N0.out y0, HRest.out.cell HI.out.bsub N0.out y1, HRest.out.cell HI.out.bsub N0.out y2, HRest.out.cell HI.out.bsub N0.out y3⟩)
      (first | (go_at_call 63; refine (HSE.out _ HB1.out).mono ?_; rintro e w' ⟨rfl, hrest⟩; have HRest : Hid (TurnRest _ X o _ w') := Lib.hid hrest; clear hrest))
    go_wp2
    go_ret
    exact TurnPost.then HB1.out ⟨rfl, HRest.out⟩ HX.out rfl
end Go.Proofs.YtbjglcdoekbloaaGreatDoor
