import Derived.Test.YtlhmdgaohonpbaaGreatDoorGLab
set_option linter.unusedSimpArgs false
set_option linter.unusedVariables false
set_option linter.unusedSectionVars false
namespace Go.Proofs.YtlhmdgaohonpbaaGreatDoor
open Go.RowKit Go.Proofs.YtlhmdgaohonpbaaGreatDoor.MapRaw
structure Ix where
 all : List (Int × List Lb)
 refs : List (ByteArray × Int)
 has : List ((ByteArray × ByteArray) × List (Int × Int))
abbrev eU (n : Int) : Value := .int .u64 n
abbrev eS (s : ByteArray) : Value := .string s
theorem keyU : KeyK Tryz.prog 34 Int eU (fun _ => True) := key_int Tryz.underlying34
theorem keyS : KeyK Tryz.prog 9 ByteArray eS (fun _ => True) := key_string Tryz.underlying9
theorem pair_fields : ∃ f0 f1 : Field, Tryz.prog.underlying 84 = some (.struct #[f0, f1]) ∧ f0.name ≠ "_" ∧ f1.name ≠ "_" ∧ f0.offset = 0 ∧ f1.offset = 1 ∧ Tryz.prog.underlying f0.type = some .string ∧ Tryz.prog.underlying f1.type = some .string :=
 ⟨_, _, Tryz.underlying84, by decide, by decide, rfl, rfl, Tryz.underlying9, Tryz.underlying9⟩
theorem pair_stood : Tryz.prog.stoodInHeld 84 = false := by kernel_rfl
theorem keyP : KeyK Tryz.prog 84 (ByteArray × ByteArray) ekPair (fun _ => True) := by
 obtain ⟨f0, f1, h, h1, h2, h3, h4, h5, h6⟩ := pair_fields
 exact key_pair h pair_stood h1 h2 h3 h4 h5 h6
theorem zeroLabels (w : World) : (zeroValue 29).run Tryz.prog w = .ok (.slice none 0 0) w := by kernel_rfl
theorem zeroU (w : World) : (zeroValue 34).run Tryz.prog w = .ok (.int .u64 0) w := by kernel_rfl
theorem zeroMapUI (w : World) : (zeroValue 85).run Tryz.prog w = .ok (.map none) w := by kernel_rfl
def evL (w : World) (X : List Nat) (l : List Lb) (v : Value) : Prop := SlL w (fun k => k ∉ X) v l ∧ l.length ≤ 100
def evI (n : Int) (v : Value) : Prop := v = .int .u64 n
def evN (n : Int) (v : Value) : Prop := v = .int .i64 n
def evM (b : Nat) (v : Value) : Prop := v = .map (some b)
structure HasAt (w : World) (hb : Nat) (H : List ((ByteArray × ByteArray) × List (Int × Int))) (inner : List ((ByteArray × ByteArray) × Nat)) : Prop where
 outer : MapAt w ekPair evM hb inner
 keys : inner.map (·.1) = H.map (·.1)
 at_ : ∀ (i : Nat) (p : (ByteArray × ByteArray) × Nat) (q : (ByteArray × ByteArray) × List (Int × Int)), inner[i]? = some p → H[i]? = some q → MapAt w eU evN p.2 q.2
structure IxAt (w : World) (X : List Nat) (xb : Nat) (I : Ix) (ab rb hb : Nat) (inner : List ((ByteArray × ByteArray) × Nat)) : Prop where
 cells : w.heap[xb]? = some (.cells #[.bool true, .map (some ab), .map (some rb), .map (some hb)] 75 (0, 0))
 all : MapAt w eU (evL w X) ab I.all
 refs : MapAt w eS evI rb I.refs
 has : HasAt w hb I.has inner
 sub : ∀ k ∈ [ab, rb, hb] ++ inner.map (·.2), k ∈ X
 nd : ([ab, rb, hb] ++ inner.map (·.2)).Nodup
 lt : ∀ k ∈ X, k < w.heap.size
theorem blk_cell {w : World} {g : Nat} {t : TypeId} {cs : Array Value} {fr : Nat × Nat} (h : w.heap[g]? = some (.cells cs t fr)) (i : Nat) : w.cell? ⟨g, i, none⟩ = cs[i]? := cell_of_row w g i cs t fr h
theorem MapRaw.MapAt.blk {κ ν : Type} [DecidableEq κ] {w : World} {ek : κ → Value} {ev : ν → Value → Prop} {b : Nat} {m : List (κ × ν)} (h : MapAt w ek ev b m) : b < w.heap.size := by
 obtain ⟨es, c, hb, _⟩ := h
 exact (Array.getElem?_eq_some_iff.1 hb).1
theorem MapRaw.MapAt.move {κ ν : Type} [DecidableEq κ] {w w' : World} {ek : κ → Value} {ev ev' : ν → Value → Prop} {b : Nat} {m : List (κ × ν)} (h : MapAt w ek ev b m) (hb : w'.heap[b]? = w.heap[b]?) (hv : ∀ p ∈ m, ∀ v, ev p.2 v → ev' p.2 v) : MapAt w' ek ev' b m := by
 obtain ⟨es, c, h1, h2⟩ := h
 exact ⟨es, c, hb.trans h1, h2.imp hv⟩
theorem evL.move {w w' : World} {X X' : List Nat} {l : List Lb} {v : Value} (h : evL w X l v) (hs : w.heap.size ≤ w'.heap.size) (hb : ∀ k, k < w.heap.size → k ∉ X → w'.heap[k]? = w.heap[k]?) (hX : ∀ k, k < w.heap.size → k ∉ X → k ∉ X') : evL w' X' l v :=
 ⟨((Slc.mono (D' := fun k => k ∉ X ∧ k ∉ X') h.1 (fun k hk hkX => ⟨hkX, hX k hk hkX⟩)).move hs (fun k hk hkX => hb k hk hkX.1)).mono (fun k _ hkX => hkX.2), h.2⟩
theorem HasAt.move {w w' : World} {hb : Nat} {H : List ((ByteArray × ByteArray) × List (Int × Int))} {inner : List ((ByteArray × ByteArray) × Nat)} (h : HasAt w hb H inner) (h1 : w'.heap[hb]? = w.heap[hb]?) (h2 : ∀ k ∈ inner.map (·.2), w'.heap[k]? = w.heap[k]?) : HasAt w' hb H inner :=
 ⟨h.outer.move h1 (fun _ _ _ hv => hv), h.keys, fun i p q hp hq => (h.at_ i p q hp hq).move (h2 _ (List.mem_map_of_mem (List.mem_of_getElem? hp))) (fun _ _ _ hv => hv)⟩
theorem IxAt.move {w w' : World} {X X' : List Nat} {xb : Nat} {I : Ix} {ab rb hb : Nat} {inner : List ((ByteArray × ByteArray) × Nat)} (h : IxAt w X xb I ab rb hb inner) (hs : w.heap.size ≤ w'.heap.size)
  (hk : ∀ k, k < w.heap.size → (k ∉ X ∨ k = xb ∨ k ∈ [ab, rb, hb] ++ inner.map (·.2)) → w'.heap[k]? = w.heap[k]?) (hX : ∀ k, k < w.heap.size → k ∉ X → k ∉ X') (hX2 : ∀ k, k ∈ X → k ∈ X') (hX3 : ∀ k ∈ X', k < w'.heap.size) : IxAt w' X' xb I ab rb hb inner := by
 have hm : ∀ k, k ∈ [ab, rb, hb] ++ inner.map (·.2) → w'.heap[k]? = w.heap[k]? := fun k hk2 => hk k (h.lt k (h.sub k hk2)) (.inr (.inr hk2))
 refine ⟨?_, ?_, ?_, ?_, fun k hk2 => hX2 k (h.sub k hk2), h.nd, hX3⟩
 ·rw [hk xb (Array.getElem?_eq_some_iff.1 h.cells).1 (.inr (.inl rfl))]; exact h.cells
 ·exact h.all.move (hm ab (by simp)) (fun p _ v hv => hv.move hs (fun k h1 h2 => hk k h1 (.inl h2)) hX)
 ·exact h.refs.move (hm rb (by simp)) (fun _ _ _ hv => hv)
 ·exact h.has.move (hm hb (by simp)) (fun k h2 => hm k (List.mem_append_right _ h2))
theorem IxAt.below {w w' : World} {X : List Nat} {xb : Nat} {I : Ix} {ab rb hb : Nat} {inner : List ((ByteArray × ByteArray) × Nat)} (h : IxAt w X xb I ab rb hb inner) (hB : Below w.heap.size w w') : IxAt w' X xb I ab rb hb inner :=
 h.move hB.size (fun k hk _ => hB.block k hk) (fun _ _ h => h) (fun _ h => h) (fun k hk => Nat.lt_of_lt_of_le (h.lt k hk) hB.size)
set_option maxHeartbeats 400000 in
theorem ix_is (xb : Nat) (w : World) (h : w.cell? ⟨xb, 0, none⟩ = some (.bool true)) :
  Calls Tryz.prog 41 #[.pointer (some ⟨xb, 0, none⟩)] w fun e w' => e = .returned (.bool true) ∧ w = w' := by
 go_enter Tryz.func41, Tryz.ntmps41
 go_wp2
 go_ret
 exact ⟨rfl, rfl⟩
set_option maxHeartbeats 400000 in
theorem ix_len {X : List Nat} {xb : Nat} {I : Ix} {ab rb hb : Nat} {inner : List ((ByteArray × ByteArray) × Nat)} (w : World) (h : IxAt w X xb I ab rb hb inner) :
  Calls Tryz.prog 25 #[.pointer (some ⟨xb, 0, none⟩)] w fun e w' => e = .returned (.int .i64 I.all.length) ∧ w = w' := by
 have c0 := blk_cell h.cells 0
 have c1 := blk_cell h.cells 1
 simp at c0 c1
 obtain ⟨es, c, hb1, hM⟩ := h.all
 have HM := Lib.hid hM
 have HB := Lib.hid hb1
 clear h hM hb1
 go_enter Tryz.func25, Tryz.ntmps25
 go_wp2_with (first | (go_at_call 41; refine (ix_is _ _ c0).mono ?_; rintro e w' ⟨rfl, rfl⟩) | (at_len; refine wpList_len_raw rfl _ 71 _ _ rfl Tryz.underlying71 ab HB.out HM.out rfl ?_))
 go_ret
 exact ⟨rfl, rfl⟩
end Go.Proofs.YtlhmdgaohonpbaaGreatDoor

namespace Go.Proofs.YtlhmdgaohonpbaaGreatDoor
open Go.RowKit Go.Proofs.YtlhmdgaohonpbaaGreatDoor.MapRaw Go.ChangeMaps
structure Apart (P : Nat → Prop) (w w' : World) : Prop where
 os : w'.os = w.os
 tape : w'.tape = w.tape
 output : w'.output = w.output
 size : w.heap.size ≤ w'.heap.size
 block : ∀ k, k < w.heap.size → ¬ P k → w'.heap[k]? = w.heap[k]?
theorem Apart.refl (P : Nat → Prop) (w : World) : Apart P w w := ⟨rfl, rfl, rfl, Nat.le_refl _, fun _ _ _ => rfl⟩
theorem below_apart {w w' : World} (h : Below w.heap.size w w') (P : Nat → Prop) : Apart P w w' := ⟨h.os, h.tape, h.output, h.size, fun k hk _ => h.block k hk⟩
theorem Apart.trans {P Q : Nat → Prop} {a b c : World} (h : Apart P a b) (k : Apart Q b c) (hQ : ∀ i, i < a.heap.size → Q i → P i) : Apart P a c :=
 ⟨k.os.trans h.os, k.tape.trans h.tape, k.output.trans h.output, Nat.le_trans h.size k.size, fun i hi hP => (k.block i (Nat.lt_of_lt_of_le hi h.size) (fun hq => hP (hQ i hi hq))).trans (h.block i hi hP)⟩
theorem Apart.then {P : Nat → Prop} {a b c : World} (h : Apart P a b) (k : Below b.heap.size b c) : Apart P a c :=
 h.trans (below_apart k (fun _ => False)) (fun _ _ h => h.elim)
theorem Apart.mono {P Q : Nat → Prop} {a b : World} (h : Apart P a b) (hQ : ∀ i, i < a.heap.size → P i → Q i) : Apart Q a b :=
 ⟨h.os, h.tape, h.output, h.size, fun i hi hq => h.block i hi (fun hp => hq (hQ i hi hp))⟩
theorem Apart.below {P : Nat → Prop} {a b : World} (h : Apart P a b) {B : Nat} (hB : B ≤ a.heap.size) (hP : ∀ k, k < B → ¬ P k) : Below B a b :=
 ⟨h.os, h.tape, h.output, h.size, fun k hk => h.block k (by omega) (hP k hk)⟩
theorem Apart.drew {P : Nat → Prop} {a b : World} (h : Apart P a b) : Apart P a b.drew := ⟨h.os, h.tape, h.output, h.size, h.block⟩
theorem Apart.drewN {P : Nat → Prop} {a b : World} (h : Apart P a b) (n : Nat) : Apart P a (b.drewN n) := ⟨h.os, h.tape, h.output, h.size, h.block⟩
theorem Apart.setB {P : Nat → Prop} {a b : World} (h : Apart P a b) (k : Nat) (hk : P k ∨ a.heap.size ≤ k) (o : Obj) : Apart P a (setBlock b k o) := by
 refine h.trans (Q := fun i => i = k) ⟨rfl, rfl, rfl, by simp [setBlock], fun i _ hne => ?_⟩ (fun i hi e => ?_)
 ·have : k ≠ i := fun e => hne e.symm
  simp [setBlock, Array.getElem?_setIfInBounds, this]
 ·rcases hk with hk | hk
  ·rw [e]; exact hk
  ·omega
theorem Apart.grown {P : Nat → Prop} {a b c : World} (h : Apart P a b) {row : Option Nat} (hg : b.grownBy c row) (hr : ∀ k, row = some k → P k ∨ a.heap.size ≤ k) : Apart P a c := by
 refine h.trans (Q := fun i => row = some i) ⟨hg.os, hg.tape, hg.output, hg.size, fun i hi hne => hg.block i hi (fun e => hne e.symm)⟩ (fun i hi e => ?_)
 rcases hr i e with h | h
 ·exact h
 ·omega
theorem Apart.alloc {P : Nat → Prop} {a b : World} (h : Apart P a b) (o : Obj) : Apart P a (b.alloc o) := h.then ((Below.refl _ _).alloc (Nat.le_refl _) o)
theorem setBlock_ne {w : World} {b k : Nat} (h : k ≠ b) (o : Obj) : (setBlock w b o).heap[k]? = w.heap[k]? := by
 have : b ≠ k := fun e => h e.symm
 simp [setBlock, Array.getElem?_setIfInBounds, this]
def AddNewPost (w : World) (e : Ending) (w' : World) : Prop :=
 ∃ xb ab rb hb, e = .returned (.pointer (some ⟨xb, 0, none⟩)) ∧ IxAt w' [ab, rb, hb] xb ⟨[], [], []⟩ ab rb hb [] ∧ (w.heap.size ≤ ab ∧ w.heap.size ≤ rb ∧ w.heap.size ≤ hb ∧ w.heap.size ≤ xb ∧ xb ≠ ab ∧ xb ≠ rb ∧ xb ≠ hb ∧ xb < w'.heap.size) ∧ Below w.heap.size w w'
theorem newIx (w : World) (o : Obj) (ho : o = .cells #[.bool true, .map (some w.heap.size), .map (some (w.heap.size + 1)), .map (some (w.heap.size + 2))] 75 (0, 0)) :
  IxAt ((((w.alloc (.map #[] 0)).alloc (.map #[] 0)).alloc (.map #[] 0)).alloc o) [w.heap.size, w.heap.size + 1, w.heap.size + 2] (w.heap.size + 3) ⟨[], [], []⟩ w.heap.size (w.heap.size + 1) (w.heap.size + 2) [] := by
 have s0 : (w.alloc (.map #[] 0)).heap.size = w.heap.size + 1 := by simp
 have s1 : ((w.alloc (.map #[] 0)).alloc (.map #[] 0)).heap.size = w.heap.size + 2 := by simp
 have s2 : (((w.alloc (.map #[] 0)).alloc (.map #[] 0)).alloc (.map #[] 0)).heap.size = w.heap.size + 3 := by simp
 have a0 := blk_new w (.map #[] 0)
 have a1 := blk_new (w.alloc (.map #[] 0)) (.map #[] 0)
 have a2 := blk_new ((w.alloc (.map #[] 0)).alloc (.map #[] 0)) (.map #[] 0)
 have a3 := blk_new (((w.alloc (.map #[] 0)).alloc (.map #[] 0)).alloc (.map #[] 0)) o
 rw [s0] at a1; rw [s1] at a2; rw [s2] at a3
 have al : ∀ (W : World) (k : Nat) (x y : Obj), W.heap[k]? = some x → (W.alloc y).heap[k]? = some x := fun W k x y h => blk_below h ((Below.refl _ _).alloc (Nat.le_refl _) y)
 refine ⟨by rw [a3, ho], ⟨_, _, al _ _ _ _ (al _ _ _ _ (al _ _ _ _ a0)), IsMap.empty⟩, ⟨_, _, al _ _ _ _ (al _ _ _ _ a1), IsMap.empty⟩, ⟨⟨_, _, al _ _ _ _ a2, IsMap.empty⟩, rfl, by intro i p q h; simp at h⟩, by simp, by simp, ?_⟩
 intro k hk
 simp at hk ⊢
 omega
set_option maxHeartbeats 400000 in
theorem postings_new (w : World) : Calls Tryz.prog 12 #[] w (AddNewPost w) := by
 have hmm := @run_makeMap Tryz.prog
 unfold AddNewPost
 go_enter Tryz.func12, Tryz.ntmps12
 go_wp2
 go_ret
 refine ⟨w.heap.size + 3, w.heap.size, w.heap.size + 1, w.heap.size + 2, rfl, newIx w _ rfl, ?_, ?_⟩
 ·simp <;> omega
 ·exact balloc (balloc (balloc (balloc (Below.refl _ _) _) _) _) _
def hasPut (H : List ((ByteArray × ByteArray) × List (Int × Int))) (ref : Int) (y : Lb) : List ((ByteArray × ByteArray) × List (Int × Int)) := mput H (y.n, y.v) (mput ((mget H (y.n, y.v)).getD []) ref 1)
def hasAdd (H : List ((ByteArray × ByteArray) × List (Int × Int))) (ref : Int) (l : List Lb) : List ((ByteArray × ByteArray) × List (Int × Int)) := l.foldl (fun H y => hasPut H ref y) H
def addI (I : Ix) (ref : Int) (l : List Lb) : Ix := ⟨mput I.all ref l, mput I.refs (printF l) ref, hasAdd I.has ref l⟩
def addErr (I : Ix) (ref : Int) (l : List Lb) : Int :=
 if rightF l ≠ 0 then rightF l else if (mget I.all ref).isSome = true ∨ (mget I.refs (printF l)).isSome = true then 100 else if 4096 ≤ I.all.length then 5 else 0
theorem mput_keys {κ ν ν' : Type} [DecidableEq κ] : ∀ (m : List (κ × ν)) (m' : List (κ × ν')) (a : κ) (x : ν) (x' : ν'), m.map (·.1) = m'.map (·.1) → (mput m a x).map (·.1) = (mput m' a x').map (·.1)
 | [], [], _, _, _, _ => rfl
 | [], _ :: _, _, _, _, h => by simp at h
 | _ :: _, [], _, _, _, h => by simp at h
 | p :: r, q :: t, a, x, x', h => by
  simp only [List.map_cons, List.cons.injEq] at h
  have ih := mput_keys r t a x x' h.2
  unfold mput
  by_cases e : p.1 = a
  ·rw [if_pos e, if_pos (h.1 ▸ e)]; simp [h.2]
  ·rw [if_neg e, if_neg (h.1 ▸ e)]; simp [ih, h.1]
theorem keys_get {κ ν ν' : Type} [DecidableEq κ] : ∀ (m : List (κ × ν)) (m' : List (κ × ν')) (a : κ), m.map (·.1) = m'.map (·.1) → (mget m a = none ∧ mget m' a = none) ∨ ∃ (x : ν) (x' : ν') (i : Nat), mget m a = some x ∧ mget m' a = some x' ∧ m[i]? = some (a, x) ∧ m'[i]? = some (a, x')
 | [], [], _, _ => .inl ⟨rfl, rfl⟩
 | [], _ :: _, _, h => by simp at h
 | _ :: _, [], _, h => by simp at h
 | p :: r, q :: t, a, h => by
  simp only [List.map_cons, List.cons.injEq] at h
  unfold mget
  rw [← h.1]
  by_cases e : p.1 = a
  ·right
   refine ⟨p.2, q.2, 0, by simp [e], by simp [e], by simp [← e], by simp [← e, h.1]⟩
  ·rcases keys_get r t a h.2 with ⟨h1, h2⟩ | ⟨x, x', i, h1, h2, h3, h4⟩
   ·left; simp [e, h1, h2]
   ·right; exact ⟨x, x', i + 1, by simp [e, h1], by simp [e, h2], by simpa using h3, by simpa using h4⟩
theorem mput_get_at {κ ν : Type} [DecidableEq κ] {m : List (κ × ν)} (hn : (m.map (·.1)).Nodup) {i : Nat} {a : κ} {x : ν} (h : m[i]? = some (a, x)) (y : ν) (j : Nat) : (mput m a y)[j]? = if j = i then some (a, y) else m[j]? := by
 rw [mput_eq_set hn h, List.getElem?_set]
 have := (List.getElem?_eq_some_iff.1 h).1
 by_cases e : i = j
 ·subst e; simp [this]
 ·rw [if_neg e, if_neg (Ne.symm e)]
theorem set_same_at {α : Type} {l : List α} {i : Nat} {a : α} (h : l[i]? = some a) : l.set i a = l := by
 apply List.ext_getElem?
 intro j
 rw [List.getElem?_set]
 by_cases e : i = j
 ·subst e
  obtain ⟨h1, h2⟩ := List.getElem?_eq_some_iff.1 h
  simp [h1, h2]
 ·simp [e]
theorem nodup_at {α : Type} {l : List α} (h : l.Nodup) {i j : Nat} (hij : i < j) (e : l[i]? = l[j]?) (hj : j < l.length) : False := by
 have hp := List.pairwise_iff_getElem.1 h i j (by omega) hj hij
 rw [List.getElem?_eq_getElem hj, List.getElem?_eq_getElem (by omega)] at e
 exact hp (Option.some.inj e)
variable {W W' : World} {hb : Nat} {H : List ((ByteArray × ByteArray) × List (Int × Int))} {inner : List ((ByteArray × ByteArray) × Nat)}
theorem HasAt.fresh (h : HasAt W hb H inner) {a : ByteArray × ByteArray} (ha : mget inner a = none) {nb : Nat} {es : Array MapEntry} {c : Nat} (hM : IsMap ekPair evM es c (mput inner a nb)) (ho : W'.heap[hb]? = some (.map es c)) (hnb : W'.heap[nb]? = some (.map #[] 0))
  (hk : ∀ k ∈ inner.map (·.2), W'.heap[k]? = W.heap[k]?) : HasAt W' hb (mput H a []) (mput inner a nb) ∧ mget (mput inner a nb) a = some nb := by
 rcases keys_get inner H a h.keys with ⟨h1, h2⟩ | ⟨x, x', i, h1, _⟩
 ·refine ⟨⟨⟨es, c, ho, hM⟩, mput_keys _ _ _ _ _ h.keys, ?_⟩, by rw [mget_put]; simp⟩
  intro i p q hp hq
  rw [mput_new h1] at hp
  rw [mput_new h2] at hq
  have hl : inner.length = H.length := by have := congrArg List.length h.keys; simpa using this
  by_cases hi : i < inner.length
  ·rw [List.getElem?_append_left hi] at hp
   rw [List.getElem?_append_left (by omega)] at hq
   exact (h.at_ i p q hp hq).move (hk _ (List.mem_map_of_mem (List.mem_of_getElem? hp))) (fun _ _ _ hv => hv)
  ·rw [List.getElem?_append_right (by omega)] at hp
   rw [List.getElem?_append_right (by omega)] at hq
   rw [hl] at hp
   cases hj : i - H.length with
   | succ j => rw [hj] at hp; simp at hp
   | zero =>
    rw [hj] at hp hq
    simp at hp hq
    subst hp; subst hq
    exact ⟨_, _, hnb, IsMap.empty⟩
 ·rw [ha] at h1; cases h1
theorem HasAt.turn (h : HasAt W hb H inner) {a : ByteArray × ByteArray} {b : Nat} (ha : mget inner a = some b) {m : List (Int × Int)} (hm : ∀ x, mget H a = some x → m = x) {m' : List (Int × Int)} {es : Array MapEntry} {c : Nat} (hM : IsMap eU evN es c m') (hbo : W'.heap[b]? = some (.map es c))
  (hnd : (hb :: inner.map (·.2)).Nodup) (hk : ∀ k ∈ hb :: inner.map (·.2), k ≠ b → W'.heap[k]? = W.heap[k]?) : HasAt W' hb (mput H a m') inner := by
 obtain ⟨es0, c0, ho, hO⟩ := h.outer
 rcases keys_get inner H a h.keys with ⟨h1, h2⟩ | ⟨x, x', i, h1, h2, h3, h4⟩
 ·rw [ha] at h1; cases h1
 ·rw [ha] at h1
  cases h1
  have hne : hb ≠ b := by
   intro e
   rw [List.nodup_cons] at hnd
   exact hnd.1 (e ▸ List.mem_map_of_mem (f := (·.2)) (List.mem_of_getElem? h3))
  have hHn : (H.map (·.1)).Nodup := by rw [← h.keys]; exact hO.nd
  refine ⟨⟨es0, c0, (hk hb (by simp) hne).trans ho, hO⟩, ?_, ?_⟩
  ·rw [mput_eq_set hHn h4, List.map_set, h.keys]
   have : (H.map (·.1))[i]? = some a := by simp [List.getElem?_map, h4]
   exact (set_same_at this).symm
  ·intro j p q hp hq
   rw [mput_get_at hHn h4] at hq
   by_cases e : j = i
   ·subst e
    rw [if_pos rfl] at hq
    rw [h3] at hp
    cases hp; cases hq
    exact ⟨es, c, hbo, hM⟩
   ·rw [if_neg e] at hq
    have hpb : p.2 ≠ b := by
     intro e2
     rw [List.nodup_cons] at hnd
     have hnd2 := hnd.2
     have hip := (List.getElem?_eq_some_iff.1 h3).1
     have hjp := (List.getElem?_eq_some_iff.1 hp).1
     rcases Nat.lt_or_gt_of_ne e with hlt | hgt
     ·exact nodup_at hnd2 hlt (by simp [List.getElem?_map, h3, hp, e2]) (by simpa using hip)
     ·exact nodup_at hnd2 hgt (by simp [List.getElem?_map, h3, hp, e2]) (by simpa using hjp)
    exact (h.at_ j p q hp hq).move (hk _ (List.mem_cons_of_mem _ (List.mem_map_of_mem (List.mem_of_getElem? hp))) hpb) (fun _ _ _ hv => hv)
end Go.Proofs.YtlhmdgaohonpbaaGreatDoor

namespace Go.Proofs.YtlhmdgaohonpbaaGreatDoor
open Go.Proofs.YtlhmdgaohonpbaaGreatDoor.MapRaw
def refF (I : Ix) (l : List Lb) : Option Int := if rightF l = 0 then mget I.refs (printF l) else none
end Go.Proofs.YtlhmdgaohonpbaaGreatDoor

namespace Go.Proofs.YtlhmdgaohonpbaaGreatDoor
open Go.RowKit Go.Proofs.YtlhmdgaohonpbaaGreatDoor.MapRaw Go.ChangeMaps
theorem ix_lookups {w : World} {X : List Nat} {xb : Nat} {I : Ix} {ab rb hb : Nat} {inner : List ((ByteArray × ByteArray) × Nat)} (h : IxAt w X xb I ab rb hb inner) (ref : Int) (s : ByteArray) :
  ∃ ea ca er cr va vr, w.heap[ab]? = some (.map ea ca) ∧ w.heap[rb]? = some (.map er cr) ∧ IsMap eU (evL w X) ea ca I.all ∧ IsMap eS evI er cr I.refs ∧
   (∀ W : World, W.heap[ab]? = some (.map ea ca) → (Instr.lookup 71 (.map (some ab)) (.int .u64 ref) true).run Tryz.prog W = .ok (.tuple #[va, .bool (mget I.all ref).isSome]) W) ∧
   (∀ W : World, W.heap[rb]? = some (.map er cr) → (Instr.lookup 72 (.map (some rb)) (.string s) true).run Tryz.prog W = .ok (.tuple #[vr, .bool (mget I.refs s).isSome]) W) := by
 obtain ⟨ea, ca, ha, hA⟩ := h.all
 obtain ⟨er, cr, hr, hR⟩ := h.refs
 obtain ⟨va, hv1, _⟩ := lookup_all keyU Tryz.underlying71 zeroLabels ab hA (a := ref) trivial (fun _ _ => trivial)
 obtain ⟨vr, hw1, _⟩ := lookup_all keyS Tryz.underlying72 zeroU rb hR (a := s) trivial (fun _ _ => trivial)
 exact ⟨ea, ca, er, cr, va, vr, ha, hr, hA, hR, hv1, hw1⟩
def RefusedPost (w : World) (n : Int) (e : Ending) (w' : World) : Prop := e = .returned (.int .i64 n) ∧ Below w.heap.size w w'
set_option maxRecDepth 100000 in
set_option maxHeartbeats 1000000 in
theorem ix_add_refused {D : Nat → Prop} {X : List Nat} {xb : Nat} {I : Ix} {ab rb hb : Nat} {inner : List ((ByteArray × ByteArray) × Nat)} (ref : Int) (v : Value) (l : List Lb) (w : World) (h : IxAt w X xb I ab rb hb inner) (hv : SlL w D v l) (hz : SzL l) (hT : Tabs w) (h2 : 2 ≤ w.heap.size) (he : addErr I ref l ≠ 0) :
  Calls Tryz.prog 15 #[.pointer (some ⟨xb, 0, none⟩), .int .u64 ref, v] w (RefusedPost w (addErr I ref l)) := by
 have c0 := blk_cell h.cells 0
 have c1 := blk_cell h.cells 1
 have c2 := blk_cell h.cells 2
 simp at c0 c1 c2
 obtain ⟨ea, ca, er, cr, va, vr, ha, hr, hMA, hMR, hla, hlr⟩ := ix_lookups h ref (printF l)
 obtain ⟨A, cp, rfl, v1, v2, v3, v4, v5⟩ := hv
 have hR := labels_right A cp l w v5 (Nat.le_trans v1 v2) hz hT h2
 unfold RefusedPost
 by_cases h0 : rightF l = 0
 ·have hP := fun (W : World) (hW : Below w.heap.size w W) => labels_print A cp l W (RdL.below v5 hW) (right_short h0)
  have he2 : addErr I ref l = if (mget I.all ref).isSome = true ∨ (mget I.refs (printF l)).isSome = true then 100 else if 4096 ≤ I.all.length then 5 else 0 := by
   unfold addErr; rw [if_neg (by simp [h0])]
  rw [h0] at hR
  rw [he2] at he ⊢
  clear he2 v1 v2 v3 v4 v5 hz h0
  obtain ⟨b1, hb1⟩ : ∃ b1, b1 = (mget I.all ref).isSome := ⟨_, rfl⟩
  obtain ⟨b2, hb2⟩ : ∃ b2, b2 = (mget I.refs (printF l)).isSome := ⟨_, rfl⟩
  rw [← hb1] at hla he ⊢
  rw [← hb2] at hlr he ⊢
  obtain ⟨n, hn⟩ : ∃ n, n = l.length := ⟨_, rfl⟩
  rw [← hn] at hR hP ⊢
  have HP := Lib.hid hP
  have HA := Lib.hid hMA
  clear hn hb1 hb2 hP hMR hMA h
  by_cases hone : b1 = true ∨ b2 = true
  ·rw [if_pos hone]
   have hb : (b1 = true) ∨ (b1 = false ∧ b2 = true) := by
    cases b1
    ·simpa using hone
    ·simp
   clear he hone
   rcases hb with rfl | ⟨rfl, rfl⟩
   all_goals
    go_enter Tryz.func15, Tryz.ntmps15
    go_wp2_with fail
    refine (ix_is _ _ c0).mono ?_
    rintro e w' ⟨rfl, rfl⟩
    go_wp2_with fail
    refine hR.mono ?_
    rintro e w1 ⟨rfl, hB1⟩
    have d1 := later hB1 c1
    have d2 := later hB1 c2
    have da := blk_below ha hB1
    have dr := blk_below hr hB1
    have hl1 := hla w1 da
    go_wp2
    have e2 : w1.drew.cell? ⟨xb, 2, none⟩ = some (.map (some rb)) := d2
    have er1 : w1.drew.heap[rb]? = some (.map er cr) := dr
    have eB : Below w.heap.size w w1.drew := bdrew hB1
    go_region_held3 (fun w' => w'.cell? ⟨xb, 2, none⟩ = some (.map (some rb)) ∧ w'.heap[rb]? = some (.map er cr) ∧ Below w.heap.size w w') (first | exact ⟨e2, er1, eB⟩ | exact ⟨later hb' e2, blk_below er1 hb', bthen eB hb'⟩)
     (first | (go_at_call 43; refine (HP.out _ eB).mono ?_; rintro e w' ⟨rfl, hb'⟩))
    go_wp2
    go_ret
    first | exact ⟨rfl, by assumption⟩ | exact ⟨rfl, bthen eB (by assumption)⟩
  ·rw [if_neg hone] at he ⊢
   have hb : b1 = false ∧ b2 = false := by
    cases b1
    ·cases b2
     ·exact ⟨rfl, rfl⟩
     ·simp at hone
    ·simp at hone
   obtain ⟨rfl, rfl⟩ := hb
   by_cases h4 : 4096 ≤ I.all.length
   ·rw [if_pos h4]
    have h4' : (4096 : Int) ≤ (I.all.length : Int) := by omega
    clear he hone h4
    go_enter Tryz.func15, Tryz.ntmps15
    go_wp2_with fail
    refine (ix_is _ _ c0).mono ?_
    rintro e w' ⟨rfl, rfl⟩
    go_wp2_with fail
    refine hR.mono ?_
    rintro e w1 ⟨rfl, hB1⟩
    have d1 := later hB1 c1
    have d2 := later hB1 c2
    have da := blk_below ha hB1
    have dr := blk_below hr hB1
    have hl1 := hla w1 da
    go_wp2
    have e1 : w1.drew.cell? ⟨xb, 1, none⟩ = some (.map (some ab)) := d1
    have e2 : w1.drew.cell? ⟨xb, 2, none⟩ = some (.map (some rb)) := d2
    have ea1 : w1.drew.heap[ab]? = some (.map ea ca) := da
    have er1 : w1.drew.heap[rb]? = some (.map er cr) := dr
    have eB : Below w.heap.size w w1.drew := bdrew hB1
    go_region_held3 (fun w' => w'.cell? ⟨xb, 1, none⟩ = some (.map (some ab)) ∧ w'.cell? ⟨xb, 2, none⟩ = some (.map (some rb)) ∧ w'.heap[ab]? = some (.map ea ca) ∧ w'.heap[rb]? = some (.map er cr) ∧ Below w.heap.size w w') (first | exact ⟨e1, e2, ea1, er1, eB⟩ | exact ⟨later hb' e1, later hb' e2, blk_below ea1 hb', blk_below er1 hb', bthen eB hb'⟩)
     (first | (go_at_call 43; refine (HP.out _ eB).mono ?_; rintro e w' ⟨rfl, hb'⟩))
    go_wp2_with (first | (at_len; refine wpList_len_raw rfl _ 71 _ _ rfl Tryz.underlying71 ab (blk_below ea1 hb') HA.out rfl ?_))
    go_ret
    first | exact ⟨rfl, by assumption⟩ | exact ⟨rfl, bthen eB (by assumption)⟩
   ·rw [if_neg h4] at he
    exact absurd rfl he
 ·have e : addErr I ref l = rightF l := by unfold addErr; rw [if_pos h0]
  rw [e]
  have h0' : (rightF l != 0) = true := by simpa using h0
  clear e he hla hlr v1 v2 v3 v4 v5 hz h h0 ha hr hMA hMR
  generalize rightF l = q at *
  obtain ⟨n, hn⟩ : ∃ n, n = l.length := ⟨_, rfl⟩
  rw [← hn] at hR ⊢
  clear hn
  go_enter Tryz.func15, Tryz.ntmps15
  go_wp2_with fail
  refine (ix_is _ _ c0).mono ?_
  rintro e w' ⟨rfl, rfl⟩
  go_wp2_with fail
  refine hR.mono ?_
  rintro e w1 ⟨rfl, hB1⟩
  go_wp2
  go_ret
  exact ⟨rfl, hB1⟩
end Go.Proofs.YtlhmdgaohonpbaaGreatDoor

namespace Go.Proofs.YtlhmdgaohonpbaaGreatDoor
open Go.RowKit Go.Proofs.YtlhmdgaohonpbaaGreatDoor.MapRaw Go.ChangeMaps
def AddPost (w : World) (X : List Nat) (xb : Nat) (I : Ix) (ab rb hb : Nat) (inner : List ((ByteArray × ByteArray) × Nat)) (ref : Int) (l : List Lb) (e : Ending) (w' : World) : Prop :=
 e = .returned (.int .i64 0) ∧ ∃ inner' X', IxAt w' X' xb (addI I ref l) ab rb hb inner' ∧ (∀ k ∈ X, k ∈ X') ∧ (∀ k ∈ X', k ∈ X ∨ w.heap.size ≤ k) ∧ (∀ k ∈ inner'.map (·.2), k ∈ inner.map (·.2) ∨ w.heap.size ≤ k) ∧ Apart (fun k => k ∈ [ab, rb, hb] ++ inner.map (·.2)) w w'
theorem IxAt.hbX {w : World} {X : List Nat} {xb : Nat} {I : Ix} {ab rb hb : Nat} {inner : List ((ByteArray × ByteArray) × Nat)} (h : IxAt w X xb I ab rb hb inner) : hb ∈ X ∧ ab ∈ X ∧ rb ∈ X ∧ hb ≠ ab ∧ hb ≠ rb ∧ ab ≠ rb ∧ (∀ k ∈ inner.map (·.2), k ∈ X ∧ k ≠ ab ∧ k ≠ rb ∧ k ≠ hb) ∧ (hb :: inner.map (·.2)).Nodup := by
 have hn := h.nd
 have hs := h.sub
 simp only [List.cons_append, List.nil_append, List.nodup_cons, List.mem_cons, not_or] at hn hs
 obtain ⟨⟨n1, n2, n3⟩, ⟨n4, n5⟩, n6, n7⟩ := hn
 exact ⟨hs hb (.inr (.inr (.inl rfl))), hs ab (.inl rfl), hs rb (.inr (.inl rfl)), Ne.symm n2, Ne.symm n4, n1, fun k hk => ⟨hs k (.inr (.inr (.inr hk))), fun e => n3 (e ▸ hk), fun e => n5 (e ▸ hk), fun e => n6 (e ▸ hk)⟩, List.nodup_cons.2 ⟨n6, n7⟩⟩
theorem ix_fresh {W : World} {X : List Nat} {xb : Nat} {I : Ix} {ab rb hb : Nat} {inner : List ((ByteArray × ByteArray) × Nat)} (h : IxAt W X xb I ab rb hb inner) (hX : xb ∉ X) {a : ByteArray × ByteArray} (ha : mget inner a = none) {nb : Nat} (hnb : nb = W.heap.size) {es : Array MapEntry} {c : Nat} (hM : IsMap ekPair evM es c (mput inner a nb)) :
  IxAt (setBlock (W.alloc (.map #[] 0)) hb (.map es c)) (nb :: X) xb ⟨I.all, I.refs, mput I.has a []⟩ ab rb hb (mput inner a nb) ∧ mget (mput inner a nb) a = some nb := by
 subst hnb
 obtain ⟨h1, h2, h3, h4, h5, h6, h7, h8⟩ := h.hbX
 have hlt := h.lt
 have hh := hlt hb h1
 have hsz : (setBlock (W.alloc (.map #[] 0)) hb (.map es c)).heap.size = W.heap.size + 1 := by rw [setBlock_size]; simp
 have keep : ∀ k, k < W.heap.size → k ≠ hb → (setBlock (W.alloc (.map #[] 0)) hb (.map es c)).heap[k]? = W.heap[k]? := fun k hk hne => by
  rw [setBlock_ne hne, Below.heap_alloc _ _ _ hk]
 have hf := HasAt.fresh (W' := setBlock (W.alloc (.map #[] 0)) hb (.map es c)) h.has ha hM (setBlock_at (by simp; omega) _) (by rw [setBlock_ne (by omega)]; exact blk_new _ _) (fun k hk => keep k (hlt k (h7 k hk).1) (h7 k hk).2.2.2)
 have hput : (mput inner a W.heap.size).map (·.2) = inner.map (·.2) ++ [W.heap.size] := by rw [mput_new ha]; simp
 refine ⟨⟨?_, ?_, ?_, hf.1, ?_, ?_, ?_⟩, hf.2⟩
 ·rw [keep xb (Array.getElem?_eq_some_iff.1 h.cells).1 (fun e => hX (e ▸ h1))]; exact h.cells
 ·exact h.all.move (keep ab (hlt _ h2) (Ne.symm h4)) (fun p _ v hv => hv.move (by omega) (fun k hk hkX => keep k hk (fun e => hkX (e ▸ h1))) (fun k hk hkX hm => (List.mem_cons.1 hm).elim (fun e => by omega) hkX))
 ·exact h.refs.move (keep rb (hlt _ h3) (Ne.symm h5)) (fun _ _ _ hv => hv)
 ·rw [hput]
  intro k hk
  rcases List.mem_append.1 hk with hk | hk
  ·exact List.mem_cons_of_mem _ (h.sub k (List.mem_append_left _ hk))
  ·rcases List.mem_append.1 hk with hk | hk
   ·exact List.mem_cons_of_mem _ (h.sub k (List.mem_append_right _ hk))
   ·simp at hk; subst hk; simp
 ·rw [hput, ← List.append_assoc, List.nodup_append]
  refine ⟨h.nd, by simp, ?_⟩
  intro x hx y hy e
  simp only [List.mem_singleton] at hy
  have := hlt x (h.sub x hx)
  omega
 ·intro k hk
  rcases List.mem_cons.1 hk with rfl | hk
  ·omega
  ·have := hlt k hk; omega
theorem ix_turn {W : World} {X : List Nat} {xb : Nat} {I : Ix} {ab rb hb : Nat} {inner : List ((ByteArray × ByteArray) × Nat)} (h : IxAt W X xb I ab rb hb inner) (hX : xb ∉ X) {a : ByteArray × ByteArray} {b : Nat} (ha : mget inner a = some b) {m' : List (Int × Int)} {es : Array MapEntry} {c : Nat} (hM : IsMap eU evN es c m') :
  IxAt (setBlock W b (.map es c)) X xb ⟨I.all, I.refs, mput I.has a m'⟩ ab rb hb inner := by
 obtain ⟨h1, h2, h3, h4, h5, h6, h7, h8⟩ := h.hbX
 have hlt := h.lt
 have hbm : b ∈ inner.map (·.2) := List.mem_map_of_mem (f := (·.2)) (mget_mem ha)
 obtain ⟨b1, b2, b3, b4⟩ := h7 b hbm
 have keep : ∀ k, k ≠ b → (setBlock W b (.map es c)).heap[k]? = W.heap[k]? := fun k hne => setBlock_ne hne _
 refine ⟨?_, ?_, ?_, ?_, h.sub, h.nd, fun k hk => by rw [setBlock_size]; exact hlt k hk⟩
 ·rw [keep xb (fun e => hX (e ▸ b1))]; exact h.cells
 ·exact h.all.move (keep ab (Ne.symm b2)) (fun p _ v hv => hv.move (by rw [setBlock_size]; exact Nat.le_refl _) (fun k hk hkX => keep k (fun e => hkX (e ▸ b1))) (fun _ _ h => h))
 ·exact h.refs.move (keep rb (Ne.symm b3)) (fun _ _ _ hv => hv)
 ·exact h.has.turn ha (m := (mget I.has a).getD []) (fun x hx => by rw [hx]; rfl) hM (setBlock_at (hlt _ b1) _) h8 (fun k _ hne => keep k hne)
theorem hasAdd_step (H : List ((ByteArray × ByteArray) × List (Int × Int))) (ref : Int) (l : List Lb) (k : Nat) (hk : k < l.length) : hasAdd H ref (l.take (k + 1)) = hasPut (hasAdd H ref (l.take k)) ref l[k] := by
 unfold hasAdd
 rw [List.take_succ_eq_append_getElem hk, List.foldl_append]; rfl
def AddRel (w4 : World) (X : List Nat) (xb : Nat) (I : Ix) (ab rb hb : Nat) (inner : List ((ByteArray × ByteArray) × Nat)) (ref : Int) (l : List Lb) (k : Nat) (w' : World) : Prop :=
 ∃ inner' X', IxAt w' X' xb ⟨I.all, I.refs, hasAdd I.has ref (l.take k)⟩ ab rb hb inner' ∧ (∀ k ∈ X, k ∈ X') ∧ (∀ k ∈ X', k ∈ X ∨ w4.heap.size ≤ k) ∧ (∀ k ∈ inner'.map (·.2), k ∈ inner.map (·.2) ∨ w4.heap.size ≤ k) ∧ Apart (fun k => k = hb ∨ k ∈ inner.map (·.2)) w4 w'
theorem AddRel.start {w4 : World} {X : List Nat} {xb : Nat} {I : Ix} {ab rb hb : Nat} {inner : List ((ByteArray × ByteArray) × Nat)} (ref : Int) (l : List Lb) (h : IxAt w4 X xb I ab rb hb inner) : AddRel w4 X xb I ab rb hb inner ref l 0 w4 :=
 ⟨inner, X, by simpa [hasAdd] using h, fun _ h => h, fun _ h => .inl h, fun _ h => .inl h, Apart.refl _ _⟩
theorem add_mid {w w2 w3 w' : World} {X : List Nat} {xb : Nat} {I : Ix} {ab rb hb : Nat} {inner : List ((ByteArray × ByteArray) × Nat)} {ref : Int} {l : List Lb} {es3 eu : Array MapEntry} {cl3 cu : Nat} {s : ByteArray} (h : IxAt w X xb I ab rb hb inner) (hX : xb ∉ X)
  (hB : Below w.heap.size w w2) (hg : w2.grownBy w3 (some ab)) (he : w3.heap[ab]? = some (.map es3 cl3)) (hM : IsMap eU (evL w2 X) es3 cl3 (mput I.all ref l)) (hB' : Below w3.heap.size w3 w') (hU : IsMap eS evI eu cu (mput I.refs s ref)) :
  IxAt (setBlock w' rb (.map eu cu)) X xb ⟨mput I.all ref l, mput I.refs s ref, I.has⟩ ab rb hb inner ∧ Apart (fun k => k = ab ∨ k = rb) w (setBlock w' rb (.map eu cu)) := by
 have hA : Apart (fun k => k = ab ∨ k = rb) w (setBlock w' rb (.map eu cu)) :=
  (((below_apart hB _).grown hg (fun k hk => by cases hk; exact .inl (.inl rfl))).then hB').setB rb (.inl (.inr rfl)) _
 have hA2 : Apart (fun k => k = ab ∨ k = rb) w2 (setBlock w' rb (.map eu cu)) :=
  ((((below_apart (Below.refl _ _) _).grown hg (fun k hk => by cases hk; exact .inl (.inl rfl))).then hB').setB rb (.inl (.inr rfl)) _)
 have hn := h.nd
 have lt := fun k hk => h.lt k (h.sub k hk)
 have hab : ab ∈ X := h.sub ab (by simp)
 have hrb : rb ∈ X := h.sub rb (by simp)
 have hne : ab ≠ rb := by intro e; subst e; simp at hn
 have hab3 : ab < w3.heap.size := (Array.getElem?_eq_some_iff.1 he).1
 have hrw : rb < w'.heap.size := Nat.lt_of_lt_of_le (lt rb (by simp)) (Nat.le_trans hB.size (Nat.le_trans hg.size hB'.size))
 refine ⟨⟨?_, ?_, ?_, ?_, h.sub, h.nd, fun k hk => Nat.lt_of_lt_of_le (h.lt k hk) hA.size⟩, hA⟩
 ·rw [hA.block xb (Array.getElem?_eq_some_iff.1 h.cells).1 (by rintro (e | e) <;> exact hX (e ▸ ‹_›))]; exact h.cells
 ·refine ⟨es3, cl3, ?_, hM.imp fun p _ v hv => hv.move hA2.size (fun k hk hkX => hA2.block k hk (by rintro (e | e) <;> exact hkX (e ▸ ‹_›))) (fun _ _ h => h)⟩
  rw [setBlock_ne hne]; exact blk_below he hB'
 ·exact ⟨eu, cu, setBlock_at hrw _, hU⟩
 ·have hin : ∀ k, k ∈ hb :: inner.map (·.2) → k ≠ ab ∧ k ≠ rb := by
   intro k hk
   constructor
   ·intro e; subst e; simp at hn hk; rcases hk with rfl | ⟨a, b, hk⟩
    ·simp at hn
    ·exact hn.1.2.2 a b hk
   ·intro e; subst e; simp at hn hk; rcases hk with rfl | ⟨a, b, hk⟩
    ·simp at hn
    ·exact hn.2.1.2 a b hk
  exact h.has.move (hA.block hb (lt hb (by simp)) (by have := hin hb (by simp); rintro (e | e) <;> simp_all)) (fun k hk => hA.block k (lt k (List.mem_append_right _ hk)) (by have := hin k (List.mem_cons_of_mem _ hk); rintro (e | e) <;> simp_all))
theorem has_look {w : World} {hb : Nat} {H : List ((ByteArray × ByteArray) × List (Int × Int))} {inner : List ((ByteArray × ByteArray) × Nat)} (h : HasAt w hb H inner) (a : ByteArray × ByteArray) :
  ∃ es c, w.heap[hb]? = some (.map es c) ∧ IsMap ekPair evM es c inner ∧ ∀ W : World, W.heap[hb]? = some (.map es c) → (Instr.lookup 73 (.map (some hb)) (.agg #[.string a.1, .string a.2]) false).run Tryz.prog W = .ok (.map (mget inner a)) W := by
 obtain ⟨es, c, ho, hM⟩ := h.outer
 obtain ⟨v, _, h1, h2, h3⟩ := lookup_all keyP Tryz.underlying73 zeroMapUI hb hM (a := a) trivial (fun _ _ => trivial)
 refine ⟨es, c, ho, hM, ?_⟩
 have hv : v = .map (mget inner a) := by
  cases hg : mget inner a with
  | none => exact h2 hg
  | some b => exact h3 b hg
 rw [← hv]
 exact h1
theorem in_up {w : World} {b : Nat} {m : List (Int × Int)} (h : MapAt w eU evN b m) (ref n : Int) :
  ∃ es c es' c', w.heap[b]? = some (.map es c) ∧ IsMap eU evN es' c' (mput m ref n) ∧ ∀ W : World, W.heap[b]? = some (.map es c) → (Instr.mapUpdate 85 (.map (some b)) (.int .u64 ref) (.int .i64 n)).run Tryz.prog W = .ok () (setBlock W b (.map es' c')) := by
 obtain ⟨es, c, ho, hM⟩ := h
 obtain ⟨es', c', h1, h2⟩ := update_all keyU Tryz.underlying85 b hM (a := ref) trivial (fun _ _ => trivial) (x := n) (v := .int .i64 n) rfl
 exact ⟨es, c, es', c', ho, h2, h1⟩
theorem out_up {es : Array MapEntry} {c hb : Nat} {inner : List ((ByteArray × ByteArray) × Nat)} (hM : IsMap ekPair evM es c inner) (a : ByteArray × ByteArray) (nb : Nat) :
  ∃ es' c', IsMap ekPair evM es' c' (mput inner a nb) ∧ ∀ W : World, W.heap[hb]? = some (.map es c) → (Instr.mapUpdate 73 (.map (some hb)) (.agg #[.string a.1, .string a.2]) (.map (some nb))).run Tryz.prog W = .ok () (setBlock W hb (.map es' c')) := by
 obtain ⟨es', c', h1, h2⟩ := update_all keyP Tryz.underlying73 hb hM (a := a) trivial (fun _ _ => trivial) (x := nb) (v := .map (some nb)) rfl
 exact ⟨es', c', h2, h1⟩
theorem cell_setBlock {w : World} {b g i : Nat} (hne : g ≠ b) {o : Obj} {v : Value} (h : w.cell? ⟨g, i, none⟩ = some v) : (setBlock w b o).cell? ⟨g, i, none⟩ = some v := by
 have hh := setBlock_ne (w := w) hne o
 unfold World.cell? at *
 rw [hh]; exact h
theorem run_eql_map_none (w : World) : (binOp .eql 85 (.map none) (.map none)).run Tryz.prog w = .ok (.bool true) w := by kernel_rfl
theorem run_eql_map_some (w : World) (b : Nat) : (binOp .eql 85 (.map (some b)) (.map none)).run Tryz.prog w = .ok (.bool false) w := by kernel_rfl
theorem has_inner {w : World} {hb : Nat} {H : List ((ByteArray × ByteArray) × List (Int × Int))} {inner : List ((ByteArray × ByteArray) × Nat)} (h : HasAt w hb H inner) {a : ByteArray × ByteArray} {b : Nat} (ha : mget inner a = some b) : MapAt w eU evN b ((mget H a).getD []) := by
 rcases keys_get inner H a h.keys with ⟨h1, _⟩ | ⟨x, x', i, h1, h2, h3, h4⟩
 ·rw [ha] at h1; cases h1
 ·rw [ha] at h1
  cases h1
  rw [h2]
  exact h.at_ i _ _ h3 h4
theorem add_next {w4 Wx : World} {X Xn : List Nat} {xb : Nat} {I : Ix} {ab rb hb : Nat} {inner inn : List ((ByteArray × ByteArray) × Nat)} {ref : Int} {l : List Lb} {k : Nat} {Hx : List ((ByteArray × ByteArray) × List (Int × Int))} {a : ByteArray × ByteArray} {b : Nat} {es : Array MapEntry} {c : Nat}
  (h : IxAt Wx Xn xb ⟨I.all, I.refs, Hx⟩ ab rb hb inn) (hX : xb ∉ Xn) (ha : mget inn a = some b) (hM : IsMap eU evN es c (mput ((mget Hx a).getD []) ref 1)) (hH : hasAdd I.has ref (l.take (k + 1)) = mput Hx a (mput ((mget Hx a).getD []) ref 1))
  (x1 : ∀ k ∈ X, k ∈ Xn) (x2 : ∀ k ∈ Xn, k ∈ X ∨ w4.heap.size ≤ k) (x3 : ∀ k ∈ inn.map (·.2), k ∈ inner.map (·.2) ∨ w4.heap.size ≤ k) (x4 : Apart (fun k => k = hb ∨ k ∈ inner.map (·.2)) w4 Wx) :
  AddRel w4 X xb I ab rb hb inner ref l (k + 1) (setBlock Wx b (.map es c)) := by
 have hm : b ∈ inn.map (·.2) := List.mem_map_of_mem (f := (·.2)) (mget_mem ha)
 refine ⟨inn, Xn, ?_, x1, x2, x3, x4.setB b ?_ _⟩
 ·rw [hH]
  exact ix_turn h hX ha hM
 ·rcases x3 b hm with h | h
  ·exact .inl (.inr h)
  ·exact .inr h
theorem IxAt.xbX {w4 : World} {X X' : List Nat} {xb : Nat} {I : Ix} {ab rb hb : Nat} {inner : List ((ByteArray × ByteArray) × Nat)} (h : IxAt w4 X xb I ab rb hb inner) (hX : xb ∉ X) (x2 : ∀ k ∈ X', k ∈ X ∨ w4.heap.size ≤ k) : xb ∉ X' := fun hm => by
 have hx := (Array.getElem?_eq_some_iff.1 h.cells).1
 rcases x2 xb hm with h | h
 ·exact hX h
 ·omega
end Go.Proofs.YtlhmdgaohonpbaaGreatDoor

namespace Go.Proofs.YtlhmdgaohonpbaaGreatDoor
open Go.RowKit Go.Proofs.YtlhmdgaohonpbaaGreatDoor.MapRaw Go.ChangeMaps
set_option maxRecDepth 100000 in
set_option maxHeartbeats 1000000 in
theorem ix_addD {D : Nat → Prop} {X : List Nat} {xb : Nat} {I : Ix} {ab rb hb : Nat} {inner : List ((ByteArray × ByteArray) × Nat)} (ref : Int) (v : Value) (l : List Lb) (w : World) (h : IxAt w X xb I ab rb hb inner) (hX : xb ∉ X) (hD : ∀ k, D k → k ≠ ab) (hv : SlL w D v l) (hz : SzL l) (hT : Tabs w) (h2 : 2 ≤ w.heap.size) (he : addErr I ref l = 0) :
  Calls Tryz.prog 15 #[.pointer (some ⟨xb, 0, none⟩), .int .u64 ref, v] w (AddPost w X xb I ab rb hb inner ref l) := by
 have c0 := blk_cell h.cells 0
 have c1 := blk_cell h.cells 1
 have c2 := blk_cell h.cells 2
 have c3 := blk_cell h.cells 3
 simp at c0 c1 c2 c3
 obtain ⟨ea, ca, er, cr, va, vr, ha, hr, hMA, hMR, hla, hlr⟩ := ix_lookups h ref (printF l)
 obtain ⟨A, cp, rfl, v1, v2, v3, v4, v5⟩ := hv
 have hR := labels_right A cp l w v5 (Nat.le_trans v1 v2) hz hT h2
 have h0 : rightF l = 0 := by
  refine Classical.byContradiction fun hc => ?_
  unfold addErr at he
  rw [if_pos hc] at he
  exact hc he
 unfold addErr at he
 rw [if_neg (by simp [h0])] at he
 have ht : ¬ ((mget I.all ref).isSome = true ∨ (mget I.refs (printF l)).isSome = true) := fun hc => by rw [if_pos hc] at he; exact absurd he (by decide)
 rw [if_neg ht] at he
 have h4 : ¬ 4096 ≤ I.all.length := fun hc => by rw [if_pos hc] at he; exact absurd he (by decide)
 have t1 : (mget I.all ref).isSome = false := by simpa using fun hc => ht (.inl hc)
 have t2 : (mget I.refs (printF l)).isSome = false := by simpa using fun hc => ht (.inr hc)
 rw [t1] at hla
 rw [t2] at hlr
 rw [h0] at hR
 have hP := fun (W : World) (hW : Below w.heap.size w W) => labels_print A cp l W (RdL.below v5 hW) (right_short h0)
 have hC := fun (W : World) (hW : Below w.heap.size w W) => labels_clone (.slice A l.length cp) l W (Slc.below (D := D) ⟨A, cp, rfl, v1, v2, v3, v4, v5⟩ hW) (by have := (right_ok h0).1; omega)
 unfold ClonePost at hC
 have h4' : ¬ (4096 : Int) ≤ (I.all.length : Int) := by omega
 obtain ⟨eu, cu, hup, hMR2⟩ := update_all keyS Tryz.underlying72 rb hMR (a := printF l) trivial (fun _ _ => trivial) (x := ref) (v := .int .u64 ref) rfl
 have HRt := Lib.hid h0
 have HVS : Hid (SlL w D (.slice A l.length cp) l) := Lib.hid ⟨A, cp, rfl, v1, v2, v3, v4, v5⟩
 have HP := Lib.hid hP
 have HC := Lib.hid hC
 have HA := Lib.hid hMA
 have HR2 := Lib.hid hMR2
 have H16 := Lib.hid (right_ok h0).1
 clear he ht h4 t1 t2 h0 hP hC hMA hMR2 hMR v1 v2 v3 v4 v5 hz
 obtain ⟨n, hn⟩ : ∃ n, n = l.length := ⟨_, rfl⟩
 have Hn := Lib.hid hn
 rw [← hn] at hR HP HC ⊢
 clear hn
 go_enter Tryz.func15, Tryz.ntmps15
 go_wp2_with fail
 refine (ix_is _ _ c0).mono ?_
 rintro e w' ⟨rfl, rfl⟩
 go_wp2_with fail
 refine hR.mono ?_
 rintro e w1 ⟨rfl, hB1⟩
 have d1 := later hB1 c1
 have d2 := later hB1 c2
 have da := blk_below ha hB1
 have dr := blk_below hr hB1
 have hl1 := hla w1 da
 go_wp2
 have e1 : w1.drew.cell? ⟨xb, 1, none⟩ = some (.map (some ab)) := d1
 have e2 : w1.drew.cell? ⟨xb, 2, none⟩ = some (.map (some rb)) := d2
 have ea1 : w1.drew.heap[ab]? = some (.map ea ca) := da
 have er1 : w1.drew.heap[rb]? = some (.map er cr) := dr
 have eB : Below w.heap.size w w1.drew := bdrew hB1
 go_region_held3 (fun w' => w'.cell? ⟨xb, 1, none⟩ = some (.map (some ab)) ∧ w'.cell? ⟨xb, 2, none⟩ = some (.map (some rb)) ∧ w'.heap[ab]? = some (.map ea ca) ∧ w'.heap[rb]? = some (.map er cr) ∧ Below w.heap.size w w') (first | exact ⟨e1, e2, ea1, er1, eB⟩ | exact ⟨later hb' e1, later hb' e2, blk_below ea1 hb', blk_below er1 hb', bthen eB hb'⟩)
  (first | (go_at_call 43; refine (HP.out _ eB).mono ?_; rintro e w' ⟨rfl, hb'⟩))
 have eB2 : Below w.heap.size w w' := bthen eB hb'
 have ea2 := blk_below ea1 hb'
 have er2 := blk_below er1 hb'
 have f1 := later hb' e1
 have f2 := later hb' e2
 clear e1 e2 ea1 er1 eB d1 d2 da dr hl1 hB1
 go_wp2_with (first | (at_len; refine wpList_len_raw rfl _ 71 _ _ rfl Tryz.underlying71 ab ea2 HA.out rfl ?_))
 refine (HC.out _ eB2).mono ?_
 rintro e w2 ⟨cv, rfl, hS, hB2⟩
 have hB3 : Below w.heap.size w w2 := bthen eB2 hB2
 have hcv : evL w2 X l cv := ⟨Slc.mono hS (fun k _ hk hkX => by have := h.lt k hkX; have := eB2.size; omega), by have := H16.out; omega⟩
 have hMA2 : IsMap eU (evL w2 X) ea ca I.all := HA.out.imp fun p _ v hv => hv.move hB3.size (fun k hk _ => hB3.block k hk) (fun _ _ h => h)
 have HA2 := Lib.hid hMA2
 have HS := Lib.hid hS
 obtain ⟨A', c', rfl, u1, u2, u3, u4, u5⟩ := hS
 have HV : Hid (evL w2 X l (.slice A' n c')) := Lib.hid (by rw [Hn.out]; exact hcv)
 have ea3 := blk_below ea2 hB2
 have er3 := blk_below er2 hB2
 have g1 := later hB2 f1
 have g2 := later hB2 f2
 clear ea2 er2 f1 f2 hMA2 u1 u2 u3 u4 hcv
 rw [← Hn.out]
 go_wp2_with (first | (at_mapUpdate; refine wpList_update_raw rfl _ _ _ 71 _ _ rfl keyU Tryz.underlying71 ab ea3 HA2.out rfl ref rfl trivial (fun _ _ => trivial) l _ rfl HV.out ?_; intro w3 es3 cl3 hes hM3 hg3 hs3))
 have hxab : some xb ≠ some ab := fun e => hX (Option.some.inj e ▸ h.sub ab (by simp))
 have hrab : some rb ≠ some ab := fun e => by
  have := h.nd
  simp at this
  have e := Option.some.inj e
  simp_all
 have hxrb : xb ≠ rb := fun e => hX (e ▸ h.sub rb (by simp))
 have bx3 := blk_grown (blk_below h.cells hB3) hg3 hxab
 have br3 := blk_grown er3 hg3 hrab
 have q2 := blk_cell bx3 2
 simp at q2
 have e2 : w3.drew.cell? ⟨xb, 2, none⟩ = some (.map (some rb)) := q2
 have er1 : w3.drew.heap[rb]? = some (.map er cr) := br3
 have HU := Lib.hid hg3
 have HE3 := Lib.hid hes
 have HM3 := Lib.hid hM3
 clear hg3 hes hM3 g1 g2
 have hPr : ∀ W : World, Below w3.drew.heap.size w3.drew W → Calls Tryz.prog 43 #[.slice A n cp] W fun e w' => e = .returned (.string (printF l)) ∧ Below W.heap.size W w' := by
  intro W hW
  rw [Hn.out]
  refine labels_print A cp l W (RdL.below ?_ hW) (right_short HRt.out)
  have hs : SlL w3 D (.slice A l.length cp) l := Slc.move HVS.out (Nat.le_trans hB3.size HU.out.size) (fun k hk hkX => (HU.out.block k (Nat.lt_of_lt_of_le hk hB3.size) (fun e => hD k hkX (Option.some.inj e))).trans (hB3.block k hk))
  obtain ⟨A1, c1, e, _, _, _, _, hr1⟩ := hs
  cases e
  exact hr1
 have HPr := Lib.hid hPr
 clear hPr
 go_region_held3 (fun w' => w'.cell? ⟨xb, 2, none⟩ = some (.map (some rb))) (first | exact e2 | exact later hb' e2 | exact cell_setBlock hxrb (later hb' e2))
  (first | (go_at_call 43; refine (HPr.out _ (Below.refl _ _)).mono ?_; rintro e w' ⟨rfl, hb'⟩; have hup' := hup w' (blk_below er1 hb')))
 obtain ⟨hI4, hA4⟩ := add_mid h hX hB3 HU.out HE3.out HM3.out ⟨hb'.os, hb'.tape, hb'.output, hb'.size, hb'.block⟩ HR2.out
 have hS4 : SlL (setBlock w' rb (.map eu cu)) (fun k => k ∉ X) (.slice A' n c') l := by
  refine Slc.move HV.out.1 ?_ ?_
  ·exact Nat.le_trans HU.out.size (Nat.le_trans hb'.size (by rw [setBlock_size]; exact Nat.le_refl _))
  ·intro k hk hkX
   rw [setBlock_ne (fun e => hkX (by rw [e]; exact h.sub rb (by simp)))]
   exact (hb'.block k (Nat.lt_of_lt_of_le hk HU.out.size)).trans (HU.out.block k hk (fun e => hkX (by have e2 := Option.some.inj e; rw [e2]; exact h.sub ab (by simp))))
 have HI4 := Lib.hid hI4
 have HA4 := Lib.hid hA4
 have HS4 := Lib.hid hS4
 clear hI4 hA4 hS4
 generalize setBlock w' rb (.map eu cu) = w4 at *
 have HL := Lib.hid h.lt
 have HND := Lib.hid h.nd
 have HSUB := Lib.hid h.sub
 clear hup hup' HPr HU HE3 HM3 HV HVS HR2 HA HA2 HC HP HRt hb' eB2 hB2 hB3 bx3 br3 q2 e2 er1 h ha hr c0 c1 c2 c3 u5 hla hlr ea3 er3 hs3
 go_wp2
 go_loopw [72] (fun i wr => ∃ k : Nat, k ≤ n ∧ i = .int .i64 k ∧ AddRel w4 X xb ⟨mput I.all ref l, mput I.refs (printF l) ref, I.has⟩ ab rb hb inner ref l k wr) (fun i _ => n - (intOf i).toNat)
 case atStart => exact ⟨0, Nat.zero_le _, rfl, AddRel.start ref l HI4.out⟩
 case round =>
  obtain ⟨k, hk, rfl, inner', X', hI, x1, x2, x3, x4⟩ := hrel
  by_cases hlt : k < n
  ·have hkl : k < l.length := by rw [← Hn.out]; exact hlt
   have hSr : SlL wr (fun k => k ∉ X) (.slice A' n c') l := Slc.move HS4.out x4.size (fun k hk hkX => x4.block k hk (by
    obtain ⟨z1, _, _, _, _, _, z2, _⟩ := HI4.out.hbX
    rintro (rfl | e)
    ·exact hkX z1
    ·exact hkX (z2 k e).1))
   obtain ⟨A1, c1, e, _, _, _, _, hr1⟩ := hSr
   cases e
   obtain ⟨b, off, rfl, p0, p1⟩ := RdL.at_ hr1 hkl
   have h16 := H16.out
   have HST := Lib.hid (hasAdd_step I.has ref l k hkl)
   generalize l[k] = y at *
   have q3 := blk_cell hI.cells 3
   simp at q3
   obtain ⟨es, c, ho, hMo, hlo⟩ := has_look hI.has (y.n, y.v)
   have HI := Lib.hid hI
   have HX1 := Lib.hid x1
   have HX2 := Lib.hid x2
   have HX3 := Lib.hid x3
   have HX4 := Lib.hid x4
   have HMo := Lib.hid hMo
   clear hI x1 x2 x3 x4 hMo hr1
   cases hg : mget inner' (y.n, y.v) with
   | none =>
    rw [hg] at hlo
    have hg0 : Hid (mget (hasAdd I.has ref (l.take k)) (y.n, y.v) = none) := Lib.hid (by
     rcases keys_get _ _ (y.n, y.v) HI.out.has.keys with ⟨_, h⟩ | ⟨_, _, _, h, _⟩
     ·exact h
     ·rw [hg] at h; cases h)
    have HG := Lib.hid hg
    go_wp2
    have hB : Below wr.heap.size wr ((wr.alloc (.cells #[.string y.n, .string y.v] 80)).alloc (.cells #[.string y.n, .string y.v] 84)) := balloc (balloc (Below.refl _ _) _) _
    have z0 : ((wr.alloc (.cells #[.string y.n, .string y.v] 80)).alloc (.cells #[.string y.n, .string y.v] 84)).cell? ⟨wr.heap.size + 1, 0, none⟩ = some (.string y.n) := by simp
    have z1 : ((wr.alloc (.cells #[.string y.n, .string y.v] 80)).alloc (.cells #[.string y.n, .string y.v] 84)).cell? ⟨wr.heap.size + 1, 1, none⟩ = some (.string y.v) := by simp
    have z2 : ((wr.alloc (.cells #[.string y.n, .string y.v] 80)).alloc (.cells #[.string y.n, .string y.v] 84)).heap.size = wr.heap.size + 2 := by simp
    generalize ((wr.alloc (.cells #[.string y.n, .string y.v] 80)).alloc (.cells #[.string y.n, .string y.v] 84)) = W at *
    have q3b := later hB q3
    have hob := blk_below ho hB
    have HB := Lib.hid hB
    clear hB
    have hmm := @run_makeMap Tryz.prog
    have hem := run_eql_map_none
    have y0 : W.drew.cell? ⟨wr.heap.size + 1, 0, none⟩ = some (.string y.n) := z0
    have y1 : W.drew.cell? ⟨wr.heap.size + 1, 1, none⟩ = some (.string y.v) := z1
    have y3 : W.drew.cell? ⟨xb, 3, none⟩ = some (.map (some hb)) := q3b
    have yo : W.drew.heap[hb]? = some (.map es c) := hob
    have hlo1 := hlo W.drew yo
    go_region_held3 (fun w' => w'.cell? ⟨wr.heap.size + 1, 0, none⟩ = some (.string y.n) ∧ w'.cell? ⟨wr.heap.size + 1, 1, none⟩ = some (.string y.v) ∧ w'.cell? ⟨xb, 3, none⟩ = some (.map (some hb))) (exact ⟨y0, y1, y3⟩) (fail)
    have z2' : W.drew.heap.size = wr.heap.size + 2 := z2
    have HB1 : Hid (Below wr.heap.size wr W.drew) := Lib.hid (bdrew HB.out)
    clear hlo hlo1 z0 z1 z2 q3b hob HB q3 ho p0 p1
    generalize W.drew = W1 at *
    obtain ⟨eo, co, hMo2, hup⟩ := out_up (hb := hb) HMo.out (y.n, y.v) (wr.heap.size + 2)
    have HMo2 := Lib.hid hMo2
    clear hMo2
    go_wp2
    have s0 : W1.drew.cell? ⟨wr.heap.size + 1, 0, none⟩ = some (.string y.n) := y0
    have s1 : W1.drew.cell? ⟨wr.heap.size + 1, 1, none⟩ = some (.string y.v) := y1
    have s3 : W1.drew.cell? ⟨xb, 3, none⟩ = some (.map (some hb)) := y3
    have hBa : Below W1.drew.heap.size W1.drew (W1.drew.alloc (.map #[] 0)) := balloc (Below.refl _ _) _
    have hu := hup (W1.alloc (.map #[] 0)).drew (blk_below (w := W1.drew) yo hBa)
    have ha0 := later hBa s0
    have ha1 := later hBa s1
    have ha3 := later hBa s3
    have n0 : wr.heap.size + 1 ≠ hb := by have := (HI.out.lt hb HI.out.hbX.1); omega
    have n3 : xb ≠ hb := by
     have := HX2.out hb HI.out.hbX.1
     have hx := (Array.getElem?_eq_some_iff.1 HI4.out.cells).1
     rintro rfl
     rcases this with h | h
     ·exact hX h
     ·omega
    have hb0 : (setBlock (W1.alloc (.map #[] 0)).drew hb (.map eo co)).cell? ⟨wr.heap.size + 1, 0, none⟩ = some (.string y.n) := cell_setBlock n0 (o := .map eo co) ha0
    have hb1 : (setBlock (W1.alloc (.map #[] 0)).drew hb (.map eo co)).cell? ⟨wr.heap.size + 1, 1, none⟩ = some (.string y.v) := cell_setBlock n0 (o := .map eo co) ha1
    have hb3 : (setBlock (W1.alloc (.map #[] 0)).drew hb (.map eo co)).cell? ⟨xb, 3, none⟩ = some (.map (some hb)) := cell_setBlock n3 (o := .map eo co) ha3
    go_region_held3 (fun w' => w'.cell? ⟨wr.heap.size + 1, 0, none⟩ = some (.string y.n) ∧ w'.cell? ⟨wr.heap.size + 1, 1, none⟩ = some (.string y.v) ∧ w'.cell? ⟨xb, 3, none⟩ = some (.map (some hb))) (first | exact ⟨s0, s1, s3⟩ | exact ⟨ha0, ha1, ha3⟩ | exact ⟨hb0, hb1, hb3⟩) (fail)
    have hI1 := HI.out.below HB1.out
    have hfr := ix_fresh (W := W1.drew) (hI1.below (bdrew (Below.refl _ _))) (HI4.out.xbX hX HX2.out) hg (nb := wr.heap.size + 2) z2'.symm HMo2.out
    have HIx : Hid (IxAt (setBlock (W1.alloc (.map #[] 0)).drew hb (.map eo co)) ((wr.heap.size + 2) :: X') xb ⟨mput I.all ref l, mput I.refs (printF l) ref, mput (hasAdd I.has ref (l.take k)) (y.n, y.v) []⟩ ab rb hb (mput inner' (y.n, y.v) (wr.heap.size + 2))) := Lib.hid hfr.1
    have HGx := Lib.hid hfr.2
    have hnew : (mput inner' (y.n, y.v) (wr.heap.size + 2)).map (·.2) = inner'.map (·.2) ++ [wr.heap.size + 2] := by rw [mput_new hg]; simp
    have h4r := HX4.out.size
    have HX1x : Hid (∀ k ∈ X, k ∈ (wr.heap.size + 2) :: X') := Lib.hid fun k hk => List.mem_cons_of_mem _ (HX1.out k hk)
    have HX2x : Hid (∀ k ∈ (wr.heap.size + 2) :: X', k ∈ X ∨ w4.heap.size ≤ k) := Lib.hid fun k hk => (List.mem_cons.1 hk).elim (fun e => .inr (by omega)) (HX2.out k)
    have HX3x : Hid (∀ k ∈ (mput inner' (y.n, y.v) (wr.heap.size + 2)).map (·.2), k ∈ inner.map (·.2) ∨ w4.heap.size ≤ k) := Lib.hid fun k hk => by
     rw [hnew] at hk
     rcases List.mem_append.1 hk with hk | hk
     ·exact HX3.out k hk
     ·simp at hk; exact .inr (by omega)
    have HX4x : Hid (Apart (fun k => k = hb ∨ k ∈ inner.map (·.2)) w4 (setBlock (W1.alloc (.map #[] 0)).drew hb (.map eo co))) := Lib.hid (((((HX4.out.then HB1.out).alloc (.map #[] 0)).drew).setB hb (.inl (.inl rfl)) _))
    have HXB := Lib.hid (HI4.out.xbX hX HX2x.out)
    have N0 : Hid (wr.heap.size + 1 ≠ wr.heap.size + 2) := Lib.hid (by omega)
    have N3 : Hid (xb ≠ wr.heap.size + 2) := Lib.hid (by have := (Array.getElem?_eq_some_iff.1 HI.out.cells).1; omega)
    clear hI1 hfr hnew h4r s0 s1 s3 ha0 ha1 ha3 hup hu hBa y0 y1 y3 yo n0 n3 z2'
    generalize setBlock (W1.alloc (.map #[] 0)).drew hb (.map eo co) = Wx at *
    have t0 : Wx.drew.cell? ⟨wr.heap.size + 1, 0, none⟩ = some (.string y.n) := hb0
    have t1 : Wx.drew.cell? ⟨wr.heap.size + 1, 1, none⟩ = some (.string y.v) := hb1
    have t3 : Wx.drew.cell? ⟨xb, 3, none⟩ = some (.map (some hb)) := hb3
    obtain ⟨e3, c3, ho3, _, hl3⟩ := has_look HIx.out.has (y.n, y.v)
    obtain ⟨e4, c4, e5, c5, ho4, hM5, hu5⟩ := in_up (has_inner HIx.out.has HGx.out) ref 1
    rw [HGx.out] at hl3
    have HM5 := Lib.hid hM5
    clear hM5
    have hl3' := hl3 Wx.drew ho3
    have hu5' := hu5 Wx.drew ho4
    have m0 := cell_setBlock N0.out (o := .map e5 c5) t0
    have m1 := cell_setBlock N0.out (o := .map e5 c5) t1
    have m3 := cell_setBlock N3.out (o := .map e5 c5) t3
    go_wp2
    go_region_held3 (fun w' => w'.cell? ⟨wr.heap.size + 1, 0, none⟩ = some (.string y.n) ∧ w'.cell? ⟨wr.heap.size + 1, 1, none⟩ = some (.string y.v) ∧ w'.cell? ⟨xb, 3, none⟩ = some (.map (some hb))) (first | exact ⟨t0, t1, t3⟩ | exact ⟨m0, m1, m3⟩) (fail)
    go_wp2
    go_roundw
    case rel =>
     refine ⟨k + 1, by omega, by go_num, add_next (Wx := Wx.drew) (HIx.out.below (bdrew (Below.refl _ _))) HXB.out HGx.out HM5.out ?_ HX1x.out HX2x.out HX3x.out HX4x.out.drew⟩
     rw [HST.out]
     unfold hasPut; rw [mget_put, if_pos rfl, mput_put]; simp [hg0.out]
    case measure => simp [intOf]; omega
   | some b2 =>
    rw [hg] at hlo
    have HG := Lib.hid hg
    go_wp2
    have hB : Below wr.heap.size wr ((wr.alloc (.cells #[.string y.n, .string y.v] 80)).alloc (.cells #[.string y.n, .string y.v] 84)) := balloc (balloc (Below.refl _ _) _) _
    have z0 : ((wr.alloc (.cells #[.string y.n, .string y.v] 80)).alloc (.cells #[.string y.n, .string y.v] 84)).cell? ⟨wr.heap.size + 1, 0, none⟩ = some (.string y.n) := by simp
    have z1 : ((wr.alloc (.cells #[.string y.n, .string y.v] 80)).alloc (.cells #[.string y.n, .string y.v] 84)).cell? ⟨wr.heap.size + 1, 1, none⟩ = some (.string y.v) := by simp
    have z2 : ((wr.alloc (.cells #[.string y.n, .string y.v] 80)).alloc (.cells #[.string y.n, .string y.v] 84)).heap.size = wr.heap.size + 2 := by simp
    generalize ((wr.alloc (.cells #[.string y.n, .string y.v] 80)).alloc (.cells #[.string y.n, .string y.v] 84)) = W at *
    have q3b := later hB q3
    have hob := blk_below ho hB
    have HB := Lib.hid hB
    clear hB
    have hem := run_eql_map_some
    have y0 : W.drew.cell? ⟨wr.heap.size + 1, 0, none⟩ = some (.string y.n) := z0
    have y1 : W.drew.cell? ⟨wr.heap.size + 1, 1, none⟩ = some (.string y.v) := z1
    have y3 : W.drew.cell? ⟨xb, 3, none⟩ = some (.map (some hb)) := q3b
    have yo : W.drew.heap[hb]? = some (.map es c) := hob
    have hlo1 := hlo W.drew yo
    go_region_held3 (fun w' => w'.cell? ⟨wr.heap.size + 1, 0, none⟩ = some (.string y.n) ∧ w'.cell? ⟨wr.heap.size + 1, 1, none⟩ = some (.string y.v) ∧ w'.cell? ⟨xb, 3, none⟩ = some (.map (some hb))) (exact ⟨y0, y1, y3⟩) (fail)
    have z2' : W.drew.heap.size = wr.heap.size + 2 := z2
    have HB1 : Hid (Below wr.heap.size wr W.drew) := Lib.hid (bdrew HB.out)
    clear hlo hlo1 z0 z1 z2 q3b hob HB q3 ho p0 p1
    generalize W.drew = W1 at *
    have hgx := HG.out
    have HIx : Hid (IxAt W1 X' xb ⟨mput I.all ref l, mput I.refs (printF l) ref, hasAdd I.has ref (l.take k)⟩ ab rb hb inner') := Lib.hid (HI.out.below HB1.out)
    have HGx := Lib.hid hgx
    have HX1x := HX1
    have HX2x := HX2
    have HX3x := HX3
    have HX4x : Hid (Apart (fun k => k = hb ∨ k ∈ inner.map (·.2)) w4 W1) := Lib.hid (HX4.out.then HB1.out)
    have HXB := Lib.hid (HI4.out.xbX hX HX2x.out)
    have hb2l := HI.out.lt b2 (HI.out.hbX.2.2.2.2.2.2.1 b2 (List.mem_map_of_mem (f := (·.2)) (mget_mem hgx))).1
    have N0 : Hid (wr.heap.size + 1 ≠ b2) := Lib.hid (by omega)
    have N3 : Hid (xb ≠ b2) := Lib.hid (fun e => HXB.out (by rw [e]; exact (HI.out.hbX.2.2.2.2.2.2.1 b2 (List.mem_map_of_mem (f := (·.2)) (mget_mem hgx))).1))
    clear hgx hb2l hg
    have t0 : W1.drew.cell? ⟨wr.heap.size + 1, 0, none⟩ = some (.string y.n) := y0
    have t1 : W1.drew.cell? ⟨wr.heap.size + 1, 1, none⟩ = some (.string y.v) := y1
    have t3 : W1.drew.cell? ⟨xb, 3, none⟩ = some (.map (some hb)) := y3
    obtain ⟨e3, c3, ho3, _, hl3⟩ := has_look HIx.out.has (y.n, y.v)
    obtain ⟨e4, c4, e5, c5, ho4, hM5, hu5⟩ := in_up (has_inner HIx.out.has HGx.out) ref 1
    rw [HGx.out] at hl3
    have HM5 := Lib.hid hM5
    clear hM5
    have hl3' := hl3 W1.drew ho3
    have hu5' := hu5 W1.drew ho4
    have m0 := cell_setBlock N0.out (o := .map e5 c5) t0
    have m1 := cell_setBlock N0.out (o := .map e5 c5) t1
    have m3 := cell_setBlock N3.out (o := .map e5 c5) t3
    go_wp2
    go_region_held3 (fun w' => w'.cell? ⟨wr.heap.size + 1, 0, none⟩ = some (.string y.n) ∧ w'.cell? ⟨wr.heap.size + 1, 1, none⟩ = some (.string y.v) ∧ w'.cell? ⟨xb, 3, none⟩ = some (.map (some hb))) (first | exact ⟨t0, t1, t3⟩ | exact ⟨m0, m1, m3⟩) (fail)
    go_wp2
    go_roundw
    case rel =>
     refine ⟨k + 1, by omega, by go_num, add_next (Wx := W1.drew) (HIx.out.below (bdrew (Below.refl _ _))) HXB.out HGx.out HM5.out ?_ HX1x.out HX2x.out HX3x.out HX4x.out.drew⟩
     rw [HST.out]
     rfl
    case measure => simp [intOf]; omega
  ·go_wp2
   go_ret
   have e : l.take k = l := List.take_of_length_le (by rw [← Hn.out]; omega)
   rw [e] at hI
   refine ⟨rfl, inner', X', hI, x1, fun k hk => ?_, fun k hk => ?_, ?_⟩
   ·rcases x2 k hk with h | h
    ·exact .inl h
    ·exact .inr (Nat.le_trans HA4.out.size h)
   ·rcases x3 k hk with h | h
    ·exact .inl h
    ·exact .inr (Nat.le_trans HA4.out.size h)
   ·refine (HA4.out.mono fun i _ h => ?_).trans x4 fun i _ h => ?_
    ·rcases h with rfl | rfl <;> simp
    ·rcases h with rfl | h
     ·simp
     ·exact List.mem_append_right _ h
theorem ix_add {X : List Nat} {xb : Nat} {I : Ix} {ab rb hb : Nat} {inner : List ((ByteArray × ByteArray) × Nat)} (ref : Int) (v : Value) (l : List Lb) (w : World) (h : IxAt w X xb I ab rb hb inner) (hX : xb ∉ X) (hv : SlL w (fun k => k ∉ X) v l) (hz : SzL l) (hT : Tabs w) (h2 : 2 ≤ w.heap.size) (he : addErr I ref l = 0) :
  Calls Tryz.prog 15 #[.pointer (some ⟨xb, 0, none⟩), .int .u64 ref, v] w (AddPost w X xb I ab rb hb inner ref l) :=
 ix_addD ref v l w h hX (fun k hk e => hk (by rw [e]; exact h.sub ab (by simp))) hv hz hT h2 he
end Go.Proofs.YtlhmdgaohonpbaaGreatDoor
