import Derived.Test.YtlhmdgaohonpbaaGreatDoorGRxA
import Derived.Test.YtlhmdgaohonpbaaGreatDoorGRxC
import Derived.BigQuiet
import Derived.Test.YtlhmdgaohonpbaaGreatDoorGRxG
import Derived.Lib.RuneCountTail
import Derived.Lib.MapLaws
import Derived.Deep.RegionLaw
set_option linter.unusedSimpArgs false
set_option linter.unusedVariables false
set_option linter.unusedSectionVars false
namespace Go.Proofs.YtlhmdgaohonpbaaGreatDoor
open Go.RowKit
structure NodeC where
 kind : Int
 a : Int
 b : Int
 set : List Sp
 but : Bool
structure St where
 i : Nat
 e : Int
 deep : Int
 L : List NodeC
def rnF (cs : List Int) (st : St) : Int := if st.e ≠ 0 then -2 else (cs[st.i]?).getD (-2)
def failS (e : Int) (st : St) : St := if st.e = 0 then { st with e := e } else st
def stepI (st : St) : St := { st with i := st.i + 1 }
def addN (n : NodeC) (st : St) : Int × St := (st.L.length, { st with L := st.L ++ [n] })
def groupR (c : Int) : List Sp := if c = 100 then [⟨48, 57⟩] else if c = 119 then [⟨48, 57⟩, ⟨65, 90⟩, ⟨97, 122⟩, ⟨95, 95⟩] else if c = 115 then [⟨32, 32⟩, ⟨9, 10⟩] else []
def escOk (c : Int) : Bool := decide (0 ≤ c) && (specialF c || decide (c = 45) || decide (c = 47))
def escR (cs : List Int) (st : St) : List Sp × St :=
 if escOk (rnF cs (stepI st)) = true then ([⟨rnF cs (stepI st), rnF cs (stepI st)⟩], stepI (stepI st))
 else if groupR (rnF cs (stepI st)) = [] then ([], failS 8 (stepI st)) else (groupR (rnF cs (stepI st)), stepI (stepI st))
def wideR : List Sp → Bool
 | [x] => !decide (x.lo = x.hi)
 | _ => true
def noSingle (c : Int) : Bool := decide (c < 0) || decide (c = 91) || decide (c = 93) || decide (c = 94) || decide (c = 45)
def singleR (cs : List Int) (st : St) : (Int × List Sp) × St :=
 if rnF cs st = 92 then (if (escR cs st).2.e ≠ 0 ∨ wideR (escR cs st).1 = true then ((0, (escR cs st).1), (escR cs st).2) else ((loOf (escR cs st).1, []), (escR cs st).2))
 else if noSingle (rnF cs st) = true then ((0, []), failS 8 st) else ((rnF cs st, []), stepI st)
def lastR (cs : List Int) (lo : Int) (st : St) : Int × St :=
 if rnF cs st = 92 ∧ 125 < lo then (0, failS 8 st)
 else if (singleR cs st).2.e = 0 ∧ ((singleR cs st).1.2 ≠ [] ∨ (singleR cs st).1.1 < lo) then ((singleR cs st).1.1, failS 8 { (singleR cs st).2 with i := if rnF cs st = 92 then st.i + 1 else st.i })
 else ((singleR cs st).1.1, (singleR cs st).2)
def itemR (cs : List Int) (st : St) : List Sp × St :=
 let x := singleR cs st
 if x.1.2 ≠ [] then (x.1.2, x.2)
 else if x.2.e = 0 ∧ rnF cs x.2 = 45 then ([⟨x.1.1, (lastR cs x.1.1 (stepI x.2)).1⟩], (lastR cs x.1.1 (stepI x.2)).2)
 else ([⟨x.1.1, x.1.1⟩], x.2)
def classL (cs : List Int) : Nat → List Sp → St → Option (List Sp) × St
 | 0, _, st => (none, st)
 | n + 1, acc, st => if st.e ≠ 0 then (none, st) else if rnF cs st = 93 ∧ acc ≠ [] then (some acc, stepI st) else classL cs n (acc ++ (itemR cs st).1) (itemR cs st).2
def classR (cs : List Int) (st : St) : Int × St :=
 let but := decide (rnF cs (stepI st) = 94)
 let x := classL cs (cs.length + 2) [] (if but = true then stepI (stepI st) else stepI st)
 match x.1 with
 | none => (0, x.2)
 | some l => addN ⟨0, 0, 0, l, but⟩ x.2
def atomR (alt : St → Int × St) (cs : List Int) (st : St) : Int × St :=
  let c := rnF cs st
  if c = 40 then
    (if st.deep = 20 then (0, failS 60 st)
     else let x := alt { stepI st with deep := st.deep + 1 }
      if rnF cs x.2 = 41 then (x.1, { stepI x.2 with deep := x.2.deep - 1 }) else (0, failS 8 x.2))
  else if c = 91 then classR cs st
  else if c = 46 then addN ⟨0, 0, 0, [], true⟩ (stepI st)
  else if c = 92 then addN ⟨0, 0, 0, (escR cs st).1, false⟩ (escR cs st).2
  else if c < 0 ∨ specialF c = true then (0, failS 8 st)
  else addN ⟨0, 0, 0, [⟨c, c⟩], false⟩ (stepI st)
def kindOf (g : Int) : Int := if g = 42 then 3 else if g = 43 then 4 else if g = 63 then 5 else 6
def pieceR (alt : St → Int × St) (cs : List Int) (st : St) : Int × St :=
 let x := atomR alt cs st
 if kindOf (rnF cs x.2) = 6 then x else addN ⟨kindOf (rnF cs x.2), x.1, 0, [], false⟩ (stepI x.2)
def goesOn (c : Int) : Bool := !decide (c = -2) && !decide (c = 124) && !decide (c = 41)
def branchL (alt : St → Int × St) (cs : List Int) : Nat → Int → St → Int × St
 | 0, n, st => (n, st)
 | k + 1, n, st => if goesOn (rnF cs st) = true then branchL alt cs k (addN ⟨1, n, (pieceR alt cs st).1, [], false⟩ (pieceR alt cs st).2).1 (addN ⟨1, n, (pieceR alt cs st).1, [], false⟩ (pieceR alt cs st).2).2 else (n, st)
def branchR (alt : St → Int × St) (cs : List Int) (st : St) : Int × St := branchL alt cs (cs.length + 2) (addN ⟨6, 0, 0, [], false⟩ st).1 (addN ⟨6, 0, 0, [], false⟩ st).2
def altL (alt : St → Int × St) (cs : List Int) : Nat → Int → St → Int × St
 | 0, n, st => (n, st)
 | k + 1, n, st => if rnF cs st = 124 then altL alt cs k (addN ⟨2, n, (branchR alt cs (stepI st)).1, [], false⟩ (branchR alt cs (stepI st)).2).1 (addN ⟨2, n, (branchR alt cs (stepI st)).1, [], false⟩ (branchR alt cs (stepI st)).2).2 else (n, st)
def altS (alt : St → Int × St) (cs : List Int) (st : St) : Int × St := altL alt cs (cs.length + 2) (branchR alt cs st).1 (branchR alt cs st).2
def altR (cs : List Int) : Nat → St → Int × St
 | 0 => fun st => (0, st)
 | d + 1 => altS (altR cs d) cs
def docR (cs : List Int) : Int × St :=
 let x := altR cs 21 ⟨0, 0, 0, []⟩
 (x.1, if x.2.i < cs.length then failS 8 x.2 else x.2)
structure Go1 (cs : List Int) (k : Nat) (st st' : St) : Prop where
 hi : st'.i ≤ cs.length
 fwd : st'.e = 0 → st.e = 0 ∧ st.i + k ≤ st'.i
 deep : st'.e = 0 → st'.deep = st.deep
theorem Go1.trans {cs : List Int} {k k' : Nat} {a b c : St} (h : Go1 cs k a b) (h' : Go1 cs k' b c) : Go1 cs (k + k') a c :=
 ⟨h'.hi, fun e => by have := h'.fwd e; have := h.fwd this.1; exact ⟨this.1, by omega⟩, fun e => (h'.deep e).trans (h.deep (h'.fwd e).1)⟩
theorem Go1.refl {cs : List Int} {st : St} (h : st.i ≤ cs.length) : Go1 cs 0 st st := ⟨h, fun e => ⟨e, by omega⟩, fun _ => rfl⟩
theorem Go1.le {cs : List Int} {k k' : Nat} {a b : St} (h : Go1 cs k a b) (hk : k' ≤ k) : Go1 cs k' a b := ⟨h.hi, fun e => by have := h.fwd e; exact ⟨this.1, by omega⟩, h.deep⟩
theorem now_lt {cs : List Int} {st : St} (h : rnF cs st ≠ -2) : st.e = 0 ∧ st.i < cs.length ∧ cs[st.i]? = some (rnF cs st) := by
 unfold rnF at h ⊢
 by_cases h1 : st.e ≠ 0
 ·rw [if_pos h1] at h; exact (h rfl).elim
 ·rw [if_neg h1] at h ⊢
  cases h2 : cs[st.i]? with
  | none => rw [h2] at h; exact (h rfl).elim
  | some c => exact ⟨by omega, (List.getElem?_eq_some_iff.1 h2).1, rfl⟩
theorem now_bad {cs : List Int} {st : St} (h : st.e ≠ 0) : rnF cs st = -2 := by unfold rnF; rw [if_pos h]
theorem go_fail {cs : List Int} {st : St} {e : Int} (k : Nat) (he : e ≠ 0) (h : st.i ≤ cs.length) : Go1 cs k st (failS e st) := by
 unfold failS
 split
 ·exact ⟨h, fun g => (he g).elim, fun _ => rfl⟩
 ·next hn => exact ⟨h, fun g => (hn g).elim, fun _ => rfl⟩
theorem fail_e {st : St} {e : Int} (he : e ≠ 0) : (failS e st).e ≠ 0 := by
 unfold failS
 split
 ·exact he
 ·next hn => exact hn
theorem go_step {cs : List Int} {st : St} (h : rnF cs st ≠ -2) : Go1 cs 1 st (stepI st) := by
 obtain ⟨h1, h2, -⟩ := now_lt h
 exact ⟨h2, fun _ => ⟨h1, Nat.le_refl _⟩, fun _ => rfl⟩
theorem go_add {cs : List Int} {st : St} (n : NodeC) (h : st.i ≤ cs.length) : Go1 cs 0 st (addN n st).2 := ⟨h, fun e => ⟨e, Nat.le_refl _⟩, fun _ => rfl⟩
theorem group_now {c : Int} (h : groupR c ≠ []) : c = 100 ∨ c = 119 ∨ c = 115 := by
 unfold groupR at h
 by_cases h1 : c = 100
 ·exact .inl h1
 ·rw [if_neg h1] at h
  by_cases h2 : c = 119
  ·exact .inr (.inl h2)
  ·rw [if_neg h2] at h
   by_cases h3 : c = 115
   ·exact .inr (.inr h3)
   ·rw [if_neg h3] at h; exact (h rfl).elim
theorem esc_now {c : Int} (h : escOk c = true) : 0 ≤ c := by
 unfold escOk at h
 simp only [Bool.and_eq_true, decide_eq_true_eq] at h
 exact h.1
theorem go_esc {cs : List Int} {st : St} (h : rnF cs st = 92) : Go1 cs 1 st (escR cs st).2 := by
 have h1 := go_step (cs := cs) (st := st) (by omega)
 unfold escR
 split
 ·next h2 =>
  have := esc_now h2
  exact (h1.trans (go_step (by omega))).le (by omega)
 ·split
  ·exact (h1.trans (go_fail 0 (by decide) h1.hi)).le (by omega)
  ·next h2 =>
   have := group_now h2
   exact (h1.trans (go_step (by omega))).le (by omega)
theorem go_single {cs : List Int} {st : St} (h : st.i ≤ cs.length) : Go1 cs 1 st (singleR cs st).2 := by
 unfold singleR
 split
 ·next h2 => split <;> exact go_esc h2
 ·split
  ·exact go_fail 1 (by decide) h
  ·next h2 =>
   refine go_step (fun e => h2 ?_)
   rw [e]; rfl
theorem go_last {cs : List Int} {st : St} (lo : Int) (h : st.i ≤ cs.length) : Go1 cs 1 st (lastR cs lo st).2 := by
 unfold lastR
 split
 ·exact go_fail 1 (by decide) h
 ·have h1 := go_single h
  split
  ·refine ⟨?_, fun e => (fail_e (by decide) e).elim, fun e => (fail_e (by decide) e).elim⟩
   have h3 : ∀ x : St, (failS 8 x).i = x.i := fun x => by unfold failS; split <;> rfl
   rw [h3]
   show (if rnF cs st = 92 then st.i + 1 else st.i) ≤ _
   split
   ·next h4 => exact (now_lt (by omega)).2.1
   ·exact h
  ·exact h1
theorem go_item {cs : List Int} {st : St} (h : st.i ≤ cs.length) : Go1 cs 1 st (itemR cs st).2 := by
 have h1 := go_single h
 unfold itemR
 simp only
 split
 ·exact h1
 ·split
  ·next h2 =>
   have h3 := go_step (cs := cs) (st := (singleR cs st).2) (by omega)
   exact ((h1.trans h3).trans (go_last _ h3.hi)).le (by omega)
  ·exact h1
end Go.Proofs.YtlhmdgaohonpbaaGreatDoor

namespace Go.Proofs.YtlhmdgaohonpbaaGreatDoor
open Go.RowKit
def muF (cs : List Int) (st : St) : Nat := st.L.length + 4 * (cs.length - st.i)
def SameL (st st' : St) : Prop := st'.L = st.L ∧ st.i ≤ st'.i
theorem SameL.trans {a b c : St} (h : SameL a b) (h' : SameL b c) : SameL a c := ⟨h'.1.trans h.1, Nat.le_trans h.2 h'.2⟩
theorem same_fail (e : Int) (st : St) : SameL st (failS e st) := by unfold failS; split <;> exact ⟨rfl, Nat.le_refl _⟩
theorem same_step (st : St) : SameL st (stepI st) := ⟨rfl, Nat.le_succ _⟩
theorem same_esc (cs : List Int) (st : St) : SameL st (escR cs st).2 := by
 unfold escR
 split
 ·exact (same_step st).trans (same_step _)
 ·split
  ·exact (same_step st).trans (same_fail _ _)
  ·exact (same_step st).trans (same_step _)
theorem same_single (cs : List Int) (st : St) : SameL st (singleR cs st).2 := by
 unfold singleR
 split
 ·split <;> exact same_esc cs st
 ·split
  ·exact same_fail _ _
  ·exact same_step st
theorem same_last (cs : List Int) (lo : Int) (st : St) : SameL st (lastR cs lo st).2 := by
 unfold lastR
 split
 ·exact same_fail _ _
 ·split
  ·refine ⟨(same_fail _ _).1.trans (same_single cs st).1, ?_⟩
   refine Nat.le_trans ?_ (same_fail _ _).2
   show st.i ≤ (if rnF cs st = 92 then st.i + 1 else st.i)
   split <;> omega
  ·exact same_single cs st
theorem same_item (cs : List Int) (st : St) : SameL st (itemR cs st).2 := by
 unfold itemR
 simp only
 split
 ·exact same_single cs st
 ·split
  ·exact ((same_single cs st).trans (same_step _)).trans (same_last cs _ _)
  ·exact same_single cs st
theorem same_classL (cs : List Int) : ∀ (n : Nat) (acc : List Sp) (st : St), SameL st (classL cs n acc st).2
 | 0, _, st => ⟨rfl, Nat.le_refl _⟩
 | n + 1, acc, st => by
  unfold classL
  split
  ·exact ⟨rfl, Nat.le_refl _⟩
  ·split
   ·exact same_step st
   ·exact (same_item cs st).trans (same_classL cs n _ _)
theorem go_classL (cs : List Int) : ∀ (n : Nat) (acc : List Sp) (st : St), st.i ≤ cs.length → Go1 cs 0 st (classL cs n acc st).2 ∧ ((classL cs n acc st).1 = none → n ≥ 1 → (classL cs n acc st).2.e = 0 → n + st.i ≤ cs.length)
 | 0, _, st, h => ⟨Go1.refl h, fun _ h => by omega⟩
 | n + 1, acc, st, h => by
  unfold classL
  split
  ·next he => exact ⟨Go1.refl h, fun _ _ e => (he e).elim⟩
  ·split
   ·next h1 => exact ⟨(go_step (by rw [h1.1]; decide)).le (by omega), fun e => by cases e⟩
   ·have h1 := go_item h
    obtain ⟨h2, h3⟩ := go_classL cs n (acc ++ (itemR cs st).1) (itemR cs st).2 h1.hi
    refine ⟨(h1.trans h2).le (by omega), fun e _ e0 => ?_⟩
    have h4 := h2.fwd e0
    have h5 := h1.fwd h4.1
    by_cases hn : n ≥ 1
    ·have := h3 e hn e0; omega
    ·have := h1.hi; omega
theorem mu_same {cs : List Int} {st st' : St} (h : SameL st st') : muF cs st' ≤ muF cs st := by
 unfold muF
 rw [h.1]
 have := h.2
 omega
theorem mu_fwd {cs : List Int} {st st' : St} {k : Nat} (h : SameL st st') (hk : st.i + k ≤ st'.i) (hi : st'.i ≤ cs.length) : muF cs st' + 4 * k ≤ muF cs st := by
 unfold muF
 rw [h.1]
 omega
theorem mu_add (cs : List Int) (n : NodeC) (st : St) : muF cs (addN n st).2 = muF cs st + 1 := by
 show (st.L ++ [n]).length + 4 * (cs.length - st.i) = _
 unfold muF
 rw [List.length_append]
 simp only [List.length_cons, List.length_nil]
 omega
theorem mu_len (cs : List Int) (st : St) : st.L.length ≤ muF cs st := by unfold muF; omega
structure Mv (cs : List Int) (k : Nat) (c d : Int) (st st' : St) : Prop where
 go : Go1 cs k st st'
 mu : (muF cs st' : Int) ≤ muF cs st + c
 ok : st'.e = 0 → (muF cs st' : Int) ≤ muF cs st + d
def AltOk (alt : St → Int × St) (cs : List Int) : Prop := ∀ st, st.i ≤ cs.length → st.e = 0 → Mv cs 0 2 1 st (alt st).2
theorem mv_class {cs : List Int} {st : St} (h : rnF cs st = 91) : Mv cs 1 0 (-3) st (classR cs st).2 := by
 have h0 := now_lt (cs := cs) (st := st) (by omega)
 have h1 := go_step (cs := cs) (st := st) (by omega)
 -- behind the sign of what is not
 obtain ⟨st2, hst2⟩ : ∃ st2, (if decide (rnF cs (stepI st) = 94) = true then stepI (stepI st) else stepI st) = st2 := ⟨_, rfl⟩
 have h2 : Go1 cs 1 st st2 := by
  rw [← hst2]
  split
  ·next g => exact (h1.trans (go_step (by simp at g; omega))).le (by omega)
  ·exact h1
 have s2 : SameL st st2 := by
  rw [← hst2]
  split
  ·exact (same_step st).trans (same_step _)
  ·exact same_step st
 have e2 : st2.e = 0 := by rw [← hst2]; split <;> exact h0.1
 have hi2 := (h2.fwd e2).2
 obtain ⟨g1, g2⟩ := go_classL cs (cs.length + 2) [] st2 h2.hi
 have s3 := same_classL cs (cs.length + 2) [] st2
 have hm := mu_fwd (cs := cs) (k := 1) (s2.trans s3) (by have := s3.2; omega) g1.hi
 show Mv cs 1 0 (-3) st (match (classL cs (cs.length + 2) [] (if decide (rnF cs (stepI st) = 94) = true then stepI (stepI st) else stepI st)).1 with | none => ((0 : Int), (classL cs (cs.length + 2) [] (if decide (rnF cs (stepI st) = 94) = true then stepI (stepI st) else stepI st)).2) | some l => addN ⟨0, 0, 0, l, decide (rnF cs (stepI st) = 94)⟩ (classL cs (cs.length + 2) [] (if decide (rnF cs (stepI st) = 94) = true then stepI (stepI st) else stepI st)).2).2
 rw [hst2]
 cases hx : (classL cs (cs.length + 2) [] st2).1 with
 | none => exact ⟨(h2.trans g1).le (by omega), by show ((muF cs (classL cs (cs.length + 2) [] st2).2 : Nat) : Int) ≤ _; omega, fun e => by have := g2 hx (by omega) e; omega⟩
 | some l =>
  have hm2 := mu_add cs ⟨0, 0, 0, l, decide (rnF cs (stepI st) = 94)⟩ (classL cs (cs.length + 2) [] st2).2
  exact ⟨((h2.trans g1).trans (go_add _ g1.hi)).le (by omega), by show ((muF cs (addN _ (classL cs (cs.length + 2) [] st2).2).2 : Nat) : Int) ≤ _; omega, fun _ => by show ((muF cs (addN _ (classL cs (cs.length + 2) [] st2).2).2 : Nat) : Int) ≤ _; omega⟩
theorem mv_atom {alt : St → Int × St} {cs : List Int} (hA : AltOk alt cs) {st : St} (h : rnF cs st ≠ -2) : Mv cs 1 0 (-3) st (atomR alt cs st).2 := by
 obtain ⟨h0, hlt, -⟩ := now_lt h
 have h1 := go_step h
 have m1 := mu_fwd (cs := cs) (k := 1) (same_step st) (Nat.le_refl _) h1.hi
 have hfail : ∀ e : Int, e ≠ 0 → Mv cs 1 0 (-3) st (failS e st) := fun e he => ⟨go_fail 1 he (Nat.le_of_lt hlt), by have := mu_same (cs := cs) (same_fail e st); omega, fun g => (fail_e he g).elim⟩
 have hadd : ∀ n : NodeC, Mv cs 1 0 (-3) st (addN n (stepI st)).2 := fun n => by
  have := mu_add cs n (stepI st)
  exact ⟨(h1.trans (go_add n h1.hi)).le (by omega), by omega, fun _ => by omega⟩
 unfold atomR
 simp only
 split
 ·split
  ·exact hfail 60 (by decide)
  ·have hi3 : ({ stepI st with deep := st.deep + 1 } : St).i ≤ cs.length := h1.hi
   obtain ⟨g1, g2, g3⟩ := hA { stepI st with deep := st.deep + 1 } hi3 h0
   have mm : muF cs ({ stepI st with deep := st.deep + 1 } : St) = muF cs (stepI st) := rfl
   generalize alt { stepI st with deep := st.deep + 1 } = x at *
   split
   ·next h41 =>
    have h5 := go_step (cs := cs) (st := x.2) (by omega)
    have m5 := mu_fwd (cs := cs) (k := 1) (same_step x.2) (Nat.le_refl _) h5.hi
    have hx0 := (now_lt (cs := cs) (st := x.2) (by omega)).1
    have m6 := g3 hx0
    have mm2 : muF cs ({ stepI x.2 with deep := x.2.deep - 1 } : St) = muF cs (stepI x.2) := rfl
    refine ⟨⟨h5.hi, fun e => ⟨h0, ?_⟩, fun e => ?_⟩, ?_, fun _ => ?_⟩
    ·have := (g1.fwd hx0).2
     show st.i + 1 ≤ x.2.i + 1
     have h7 : ({ stepI st with deep := st.deep + 1 } : St).i = st.i + 1 := rfl
     omega
    ·show x.2.deep - 1 = st.deep
     have := g1.deep hx0
     have h7 : ({ stepI st with deep := st.deep + 1 } : St).deep = st.deep + 1 := rfl
     omega
    ·show ((muF cs ({ stepI x.2 with deep := x.2.deep - 1 } : St) : Nat) : Int) ≤ _
     omega
    ·show ((muF cs ({ stepI x.2 with deep := x.2.deep - 1 } : St) : Nat) : Int) ≤ _
     omega
   ·refine ⟨go_fail' g1.hi, ?_, fun e => (fail_e (by decide) e).elim⟩
    have := mu_same (cs := cs) (same_fail 8 x.2)
    show ((muF cs (failS 8 x.2) : Nat) : Int) ≤ _
    omega
 ·split
  ·next h91 => exact mv_class h91
  ·split
   ·exact hadd _
   ·split
    ·next h92 =>
     have g1 := go_esc h92
     have s1 := same_esc cs st
     have m3 := mu_add cs ⟨0, 0, 0, (escR cs st).1, false⟩ (escR cs st).2
     have hle : st.i + 1 ≤ (escR cs st).2.i := by
      unfold escR
      split
      ·show st.i + 1 ≤ st.i + 1 + 1; omega
      ·split
       ·exact (same_fail 8 (stepI st)).2
       ·show st.i + 1 ≤ st.i + 1 + 1; omega
     have m2 := mu_fwd (cs := cs) (k := 1) s1 hle g1.hi
     exact ⟨(g1.trans (go_add _ g1.hi)).le (by omega), by omega, fun _ => by omega⟩
    ·split
     ·exact hfail 8 (by decide)
     ·exact hadd _
where go_fail' {cs : List Int} {st x : St} {k : Nat} (h : x.i ≤ cs.length) : Go1 cs k st (failS 8 x) := ⟨by unfold failS; split <;> exact h, fun e => (fail_e (by decide) e).elim, fun e => (fail_e (by decide) e).elim⟩
theorem mv_piece {alt : St → Int × St} {cs : List Int} (hA : AltOk alt cs) {st : St} (h : rnF cs st ≠ -2) : Mv cs 1 0 (-3) st (pieceR alt cs st).2 := by
 have h1 := mv_atom hA h
 unfold pieceR
 simp only
 generalize atomR alt cs st = x at *
 split
 ·exact h1
 ·next hk =>
  have hn : rnF cs x.2 ≠ -2 := fun e => hk (by rw [e]; decide)
  have h2 := go_step hn
  have m2 := mu_fwd (cs := cs) (k := 1) (same_step x.2) (Nat.le_refl _) h2.hi
  have m3 := mu_add cs ⟨kindOf (rnF cs x.2), x.1, 0, [], false⟩ (stepI x.2)
  have m4 := h1.ok (now_lt hn).1
  exact ⟨((h1.go.trans h2).trans (go_add _ h2.hi)).le (by omega), by omega, fun _ => by omega⟩
theorem goes_now {c : Int} (h : goesOn c = true) : c ≠ -2 := fun e => by rw [e] at h; cases h
theorem mv_branchL {alt : St → Int × St} {cs : List Int} (hA : AltOk alt cs) : ∀ (k : Nat) (n : Int) (st : St), st.i ≤ cs.length → Mv cs 0 1 0 st (branchL alt cs k n st).2
 | 0, n, st, h => ⟨Go1.refl h, by show ((muF cs st : Nat) : Int) ≤ _; omega, fun _ => by show ((muF cs st : Nat) : Int) ≤ _; omega⟩
 | k + 1, n, st, h => by
  unfold branchL
  split
  ·next hg =>
   have h1 := mv_piece hA (goes_now hg)
   obtain ⟨st2, hst2⟩ : ∃ st2, (addN ⟨1, n, (pieceR alt cs st).1, [], false⟩ (pieceR alt cs st).2) = st2 := ⟨_, rfl⟩
   have m2 := mu_add cs ⟨1, n, (pieceR alt cs st).1, [], false⟩ (pieceR alt cs st).2
   have g2 := go_add ⟨1, n, (pieceR alt cs st).1, [], false⟩ h1.go.hi
   rw [hst2] at m2 g2 ⊢
   have h3 := mv_branchL hA k st2.1 st2.2 g2.hi
   have hmu := h1.mu
   have hok := h1.ok
   by_cases he : st2.2.e = 0
   ·have he1 := (g2.fwd he).1
    have := hok he1
    exact ⟨((h1.go.trans g2).trans h3.go).le (by omega), by have := h3.mu; omega, fun e => by have := h3.ok e; omega⟩
   ·have hstop : branchL alt cs k st2.1 st2.2 = (st2.1, st2.2) := by
     cases k with
     | zero => rfl
     | succ k => unfold branchL; rw [now_bad he]; rfl
    rw [hstop]
    exact ⟨(h1.go.trans g2).le (by omega), by show ((muF cs st2.2 : Nat) : Int) ≤ _; omega, fun e => (he e).elim⟩
  ·exact ⟨Go1.refl h, by show ((muF cs st : Nat) : Int) ≤ _; omega, fun _ => by show ((muF cs st : Nat) : Int) ≤ _; omega⟩
theorem mv_branch {alt : St → Int × St} {cs : List Int} (hA : AltOk alt cs) {st : St} (h : st.i ≤ cs.length) : Mv cs 0 2 1 st (branchR alt cs st).2 := by
 unfold branchR
 have m1 := mu_add cs ⟨6, 0, 0, [], false⟩ st
 have g1 := go_add ⟨6, 0, 0, [], false⟩ h
 have h2 := mv_branchL hA (cs.length + 2) (addN ⟨6, 0, 0, [], false⟩ st).1 (addN ⟨6, 0, 0, [], false⟩ st).2 g1.hi
 have := h2.mu
 exact ⟨(g1.trans h2.go).le (by omega), by omega, fun e => by have := h2.ok e; omega⟩
theorem mv_altL {alt : St → Int × St} {cs : List Int} (hA : AltOk alt cs) : ∀ (k : Nat) (n : Int) (st : St), st.i ≤ cs.length → Mv cs 0 0 0 st (altL alt cs k n st).2
 | 0, n, st, h => ⟨Go1.refl h, by show ((muF cs st : Nat) : Int) ≤ _; omega, fun _ => by show ((muF cs st : Nat) : Int) ≤ _; omega⟩
 | k + 1, n, st, h => by
  unfold altL
  split
  ·next hg =>
   have h0 := go_step (cs := cs) (st := st) (by omega)
   have m0 := mu_fwd (cs := cs) (k := 1) (same_step st) (Nat.le_refl _) h0.hi
   have h1 := mv_branch hA h0.hi
   obtain ⟨st2, hst2⟩ : ∃ st2, (addN ⟨2, n, (branchR alt cs (stepI st)).1, [], false⟩ (branchR alt cs (stepI st)).2) = st2 := ⟨_, rfl⟩
   have m2 := mu_add cs ⟨2, n, (branchR alt cs (stepI st)).1, [], false⟩ (branchR alt cs (stepI st)).2
   have g2 := go_add ⟨2, n, (branchR alt cs (stepI st)).1, [], false⟩ h1.go.hi
   rw [hst2] at m2 g2 ⊢
   have h3 := mv_altL hA k st2.1 st2.2 g2.hi
   have hmu := h1.mu
   have := h3.mu
   exact ⟨(((h0.trans h1.go).trans g2).trans h3.go).le (by omega), by omega, fun e => by have := h3.ok e; omega⟩
  ·exact ⟨Go1.refl h, by show ((muF cs st : Nat) : Int) ≤ _; omega, fun _ => by show ((muF cs st : Nat) : Int) ≤ _; omega⟩
theorem mv_alt {cs : List Int} : ∀ d : Nat, AltOk (altR cs d) cs
 | 0 => fun st h _ => ⟨Go1.refl h, by show ((muF cs st : Nat) : Int) ≤ _; omega, fun _ => by show ((muF cs st : Nat) : Int) ≤ _; omega⟩
 | d + 1 => fun st h _ => by
  show Mv cs 0 2 1 st (altL (altR cs d) cs (cs.length + 2) (branchR (altR cs d) cs st).1 (branchR (altR cs d) cs st).2).2
  have h1 := mv_branch (mv_alt d) h
  have h2 := mv_altL (mv_alt d) (cs.length + 2) (branchR (altR cs d) cs st).1 (branchR (altR cs d) cs st).2 h1.go.hi
  have := h1.mu
  have := h2.mu
  exact ⟨(h1.go.trans h2.go).le (by omega), by omega, fun e => by have := h2.ok e; have := h1.ok (h2.go.fwd e).1; omega⟩
end Go.Proofs.YtlhmdgaohonpbaaGreatDoor

namespace Go.Proofs.YtlhmdgaohonpbaaGreatDoor
open Go.RowKit Go.Proofs.YtlhmdgaohonpbaaGreatDoor.MapRaw Go.ChangeMaps
structure Ch where
 c : Int
 at_ : Int
def Ch.enc (x : Ch) : List Value := [.int .i32 x.c, .int .i64 x.at_]
structure Ps where
 i : Nat
 en : Int
 lv : Value
 top : Int
 s : ByteArray
 sz : Int
 pl : Bool
 bad : Int
 e : Int
 deep : Int
def Ps.cells (p : Ps) (cv : Value) : Array Value := #[cv, .int .i64 p.i, .int .i64 p.en, p.lv, .int .i64 p.top, .string p.s, .int .i64 p.sz, .bool p.pl, .int .i64 p.bad, .int .i64 p.e, .int .i64 p.deep]
structure Nc where
 kind : Int
 a : Int
 b : Int
 sv : Value
 set : List Sp
 but : Bool
def Nc.enc (x : Nc) : List Value := [.int .i64 x.kind, .int .i64 x.a, .int .i64 x.b, x.sv, .bool x.but]
def Nc.key (x : Nc) : NodeC := ⟨x.kind, x.a, x.b, x.set, x.but⟩
structure KAt (pb : Nat) (cv : Value) (cs : List Ch) (p : Ps) (l : List Nc) (w : World) : Prop where
 blk : w.heap[pb]? = some (.cells (p.cells cv) 155 (0, 0))
 chr : Slc 2 Ch.enc w (fun k => k < pb) cv cs
 hi : p.i ≤ cs.length
 len : cs.length ≤ 256
 row : w.ownsRow (pb + 1) 183 5 p.lv l.length (l.flatMap Nc.enc)
 sets : ∀ x ∈ l, Slc 2 Sp.enc w (fun k => pb < k ∧ p.lv.ownBlock ≠ some k) x.sv x.set
def Ps.st (p : Ps) (l : List Nc) : St := ⟨p.i, p.e, p.deep, l.map Nc.key⟩
def codes (cs : List Ch) : List Int := cs.map Ch.c
section
variable {pb : Nat} {cv : Value} {cs : List Ch} {p p' : Ps} {l : List Nc} {w w' : World}
theorem KAt.lt (h : KAt pb cv cs p l w) : pb < w.heap.size := (Array.getElem?_eq_some_iff.1 h.blk).1
theorem KAt.cells (h : KAt pb cv cs p l w) : w.cell? ⟨pb, 0, none⟩ = some cv ∧ w.cell? ⟨pb, 1, none⟩ = some (.int .i64 p.i) ∧ w.cell? ⟨pb, 3, none⟩ = some p.lv ∧ w.cell? ⟨pb, 6, none⟩ = some (.int .i64 p.sz) ∧ w.cell? ⟨pb, 7, none⟩ = some (.bool p.pl) ∧ w.cell? ⟨pb, 9, none⟩ = some (.int .i64 p.e) ∧ w.cell? ⟨pb, 10, none⟩ = some (.int .i64 p.deep) := by
 have c0 := blk_cell h.blk 0
 have c1 := blk_cell h.blk 1
 have c3 := blk_cell h.blk 3
 have c6 := blk_cell h.blk 6
 have c7 := blk_cell h.blk 7
 have c9 := blk_cell h.blk 9
 have c10 := blk_cell h.blk 10
 simp [Ps.cells] at c0 c1 c3 c6 c7 c9 c10
 exact ⟨c0, c1, c3, c6, c7, c9, c10⟩
theorem KAt.cend (h : KAt pb cv cs p l w) : w.cell? ⟨pb, 2, none⟩ = some (.int .i64 p.en) := by
 have c2 := blk_cell h.blk 2
 simpa [Ps.cells] using c2
theorem KAt.chars (h : KAt pb cv cs p l w) : ∃ A c, cv = .slice A cs.length c ∧ Rd 2 Ch.enc w A cs := by
 obtain ⟨A, c, e, -, -, -, -, hR⟩ := h.chr
 exact ⟨A, c, e, hR⟩
theorem KAt.turn (h : KAt pb cv cs p l w) (hA : Apart (fun k => k = pb) w w') (hb : w'.heap[pb]? = some (.cells (p'.cells cv) 155 (0, 0))) (hi : p'.i ≤ cs.length) (hlv : p'.lv = p.lv) : KAt pb cv cs p' l w' :=
 ⟨hb, h.chr.move hA.size (fun k hk hD => hA.block k hk (by omega)), hi, h.len, by rw [hlv]; exact ownsRow_move h.row (fun k hk => hA.block k (ownsRow_blk h.row k hk).2 (by have := (ownsRow_blk h.row k hk).1; omega)), fun x hx => by rw [hlv]; exact (h.sets x hx).move hA.size (fun k hk hD => hA.block k hk (by have := hD.1; omega))⟩
theorem KAt.below (h : KAt pb cv cs p l w) (hb : Below w.heap.size w w') : KAt pb cv cs p l w' := h.turn (below_apart hb _) (blk_below h.blk hb) h.hi rfl
theorem KAt.setI (h : KAt pb cv cs p l w) {n : Nat} (hn : n ≤ cs.length) : KAt pb cv cs { p with i := n } l (w.setCell ⟨pb, 1, none⟩ (.int .i64 n)) :=
 h.turn ((Apart.refl (fun k => k = pb) _).setC ⟨pb, 1, none⟩ (.inl rfl) _) (by rw [setCell_blk (i := 1) _ h.blk]; rfl) hn rfl
theorem KAt.setSz (h : KAt pb cv cs p l w) (n : Int) : KAt pb cv cs { p with sz := n } l (w.setCell ⟨pb, 6, none⟩ (.int .i64 n)) :=
 h.turn ((Apart.refl (fun k => k = pb) _).setC ⟨pb, 6, none⟩ (.inl rfl) _) (by rw [setCell_blk (i := 6) _ h.blk]; rfl) h.hi rfl
theorem KAt.setPl (h : KAt pb cv cs p l w) (n : Bool) : KAt pb cv cs { p with pl := n } l (w.setCell ⟨pb, 7, none⟩ (.bool n)) :=
 h.turn ((Apart.refl (fun k => k = pb) _).setC ⟨pb, 7, none⟩ (.inl rfl) _) (by rw [setCell_blk (i := 7) _ h.blk]; rfl) h.hi rfl
theorem KAt.setBad (h : KAt pb cv cs p l w) (n : Int) : KAt pb cv cs { p with bad := n } l (w.setCell ⟨pb, 8, none⟩ (.int .i64 n)) :=
 h.turn ((Apart.refl (fun k => k = pb) _).setC ⟨pb, 8, none⟩ (.inl rfl) _) (by rw [setCell_blk (i := 8) _ h.blk]; rfl) h.hi rfl
theorem KAt.setE (h : KAt pb cv cs p l w) (n : Int) : KAt pb cv cs { p with e := n } l (w.setCell ⟨pb, 9, none⟩ (.int .i64 n)) :=
 h.turn ((Apart.refl (fun k => k = pb) _).setC ⟨pb, 9, none⟩ (.inl rfl) _) (by rw [setCell_blk (i := 9) _ h.blk]; rfl) h.hi rfl
theorem KAt.setD (h : KAt pb cv cs p l w) (n : Int) : KAt pb cv cs { p with deep := n } l (w.setCell ⟨pb, 10, none⟩ (.int .i64 n)) :=
 h.turn ((Apart.refl (fun k => k = pb) _).setC ⟨pb, 10, none⟩ (.inl rfl) _) (by rw [setCell_blk (i := 10) _ h.blk]; rfl) h.hi rfl
end
theorem setA {w : World} {pb i : Nat} (v : Value) : Apart (fun k => k = pb) w (w.setCell ⟨pb, i, none⟩ v)   := (Apart.refl (fun k => k = pb) _).setC ⟨pb, i, none⟩ (.inl rfl) _
structure KTo (pb : Nat) (cv : Value) (cs : List Ch) (p : Ps) (l : List Nc) (w : World) (st : St) (p' : Ps) (w' : World) : Prop where
 at_ : KAt pb cv cs p' l w'
 lv : p'.lv = p.lv
 st : p'.st l = st
 apart : Apart (fun k => k = pb) w w'
theorem KTo.then {pb : Nat} {cv : Value} {cs : List Ch} {p p' p2 : Ps} {l : List Nc} {w w' w2 : World} {st st2 : St} (h : KTo pb cv cs p l w st p' w') (h2 : KTo pb cv cs p' l w' st2 p2 w2) : KTo pb cv cs p l w st2 p2 w2 := ⟨h2.at_, h2.lv.trans h.lv, h2.st, h.apart.trans h2.apart (fun _ _ h => h)⟩
theorem KTo.refl {pb : Nat} {cv : Value} {cs : List Ch} {p : Ps} {l : List Nc} {w : World} (h : KAt pb cv cs p l w) : KTo pb cv cs p l w (p.st l) p w := ⟨h, rfl, rfl, Apart.refl _ _⟩
theorem KTo.below {pb : Nat} {cv : Value} {cs : List Ch} {p p' : Ps} {l : List Nc} {w w' w2 : World} {st : St} (h : KTo pb cv cs p l w st p' w') (hb : Below w'.heap.size w' w2) : KTo pb cv cs p l w st p' w2 := ⟨h.at_.below hb, h.lv, h.st, h.apart.then hb⟩
theorem now_end {cs : List Ch} {p : Ps} {l : List Nc} (h : ¬ p.i < cs.length) : rnF (codes cs) (p.st l) = -2 := by
 unfold rnF codes Ps.st
 simp only
 split
 ·rfl
 ·rw [List.getElem?_eq_none (by rw [List.length_map]; omega)]; rfl
theorem now_err {cs : List Ch} {p : Ps} {l : List Nc} (h : p.e ≠ 0) : rnF (codes cs) (p.st l) = -2 := now_bad h
theorem now_at {cs : List Ch} {p : Ps} {l : List Nc} (he : p.e = 0) (h : p.i < cs.length) : rnF (codes cs) (p.st l) = cs[p.i].c := by
 unfold rnF codes Ps.st
 simp only
 rw [if_neg (by omega), List.getElem?_eq_getElem (by rw [List.length_map]; exact h)]
 simp
set_option maxRecDepth 100000 in
set_option maxHeartbeats 1000000 in
theorem k_now {pb : Nat} {cv : Value} {cs : List Ch} {p : Ps} {l : List Nc} {w : World} (h : KAt pb cv cs p l w) :
  Calls Tryz.prog 132 #[.pointer (some ⟨pb, 0, none⟩)] w fun e w' => e = .returned (.int .i32 (rnF (codes cs) (p.st l))) ∧ Below w.heap.size w w' := by
 obtain ⟨c0, c1, -, -, -, c9, -⟩ := h.cells
 obtain ⟨A, c, rfl, hR⟩ := h.chars
 have hlen := h.len
 have HR := Lib.hid hR
 by_cases hi : p.i < cs.length
 ·have hd : decide ((p.i : Int) ≥ (cs.length : Int)) = false := decide_eq_false (by omega)
  have hd2 : decide ((cs.length : Int) ≤ (p.i : Int)) = false := decide_eq_false (by omega)
  by_cases he : p.e = 0
  ·have hn := now_at (l := l) he hi
   have HN := Lib.hid hn
   obtain ⟨b, off, rfl, z⟩ := hR _ _ (List.getElem?_eq_getElem hi)
   have z0 := z 0 _ rfl
   simp only [Nat.add_zero] at z0
   have hbe : (p.e != 0) = false := by simp [he]
   have hi0 : (0 : Int) ≤ (p.i : Int) := by omega
   have hi1 : (p.i : Int) < (cs.length : Int) := by omega
   generalize rnF (codes cs) (p.st l) = res at *
   generalize cs[p.i] = x at *
   generalize hen : cs.length = n at *
   generalize hpi : p.i = i at *
   generalize p.e = e at *
   clear h hR z hn he HR hpi hen
   go_enter Tryz.func132, Tryz.ntmps132
   go_wp2_with fail
   go_quiet (fail)
   go_wp2_with fail
   go_quiet (fail)
   go_wp2_with fail
   go_ret
   exact ⟨ret_int HN.out.symm, bdr (bdr (Below.refl _ _) _) _⟩
  ·have hn := now_err (cs := cs) (l := l) he
   have HN := Lib.hid hn
   have hbe : (p.e != 0) = true := by simp [he]
   generalize rnF (codes cs) (p.st l) = res at *
   generalize hen : cs.length = n at *
   generalize hpi : p.i = i at *
   generalize p.e = e at *
   clear h hR hn he HR hpi hen
   go_enter Tryz.func132, Tryz.ntmps132
   go_wp2_with fail
   go_quiet (fail)
   go_wp2_with fail
   go_ret
   exact ⟨ret_int HN.out.symm, bdr (Below.refl _ _) _⟩
 ·have hd : decide ((p.i : Int) ≥ (cs.length : Int)) = true := decide_eq_true (by omega)
  have hd2 : decide ((cs.length : Int) ≤ (p.i : Int)) = true := decide_eq_true (by omega)
  have hd3 : decide (cs.length ≤ p.i) = true := decide_eq_true (by omega)
  have hn := now_end (l := l) hi
  have HN := Lib.hid hn
  generalize rnF (codes cs) (p.st l) = res at *
  generalize hen : cs.length = n at *
  generalize hpi : p.i = i at *
  generalize p.e = e at *
  clear h hR hn HR hpi hen hi
  go_enter Tryz.func132, Tryz.ntmps132
  go_wp2_with fail
  go_quiet (fail)
  go_wp2_with fail
  go_ret
  exact ⟨ret_int HN.out.symm, bdr (Below.refl _ _) _⟩
end Go.Proofs.YtlhmdgaohonpbaaGreatDoor

namespace Go.Proofs.YtlhmdgaohonpbaaGreatDoor
open Go.RowKit
def sBad : ByteArray := { data := #[239, 191, 189] }
theorem bad_three (n b3 : Nat) (h : 3 ≤ n) : Lib.decodeN n 239 191 189 b3 = (65533, 3) := by
 unfold Lib.decodeN
 rw [if_neg (by omega), if_neg (by omega), if_pos ⟨by omega, ⟨by omega, by omega⟩, by omega, by omega⟩, if_pos ⟨by omega, by omega⟩]
theorem bad_N (n b0 b1 b2 b3 : Nat) (k1 : b1 < 256) (k2 : b2 < 256) (h : (Lib.decodeN n b0 b1 b2 b3).1 = 65533) : ((Lib.decodeN n b0 b1 b2 b3).2 = 1 ∧ ¬ (3 ≤ n ∧ b0 = 239 ∧ b1 = 191 ∧ b2 = 189)) ∨ ((Lib.decodeN n b0 b1 b2 b3).2 = 3 ∧ 3 ≤ n ∧ b0 = 239 ∧ b1 = 191 ∧ b2 = 189) := by
 rcases Lib.decodeN_shape n b0 b1 b2 b3 with ⟨c, e⟩ | ⟨c1, c2, c3, cv, e⟩ | ⟨c1, c2, c3, c4, cv, cs, e⟩ | ⟨c1, c2, c3, c4, c5, cv, cw, e⟩ | e
 ·rw [e] at h; dsimp only at h; omega
 ·rw [e] at h; dsimp only at h; omega
 ·rw [e] at h ⊢
  dsimp only at h ⊢
  exact .inr ⟨rfl, by omega, by omega, by omega, by omega⟩
 ·rw [e] at h; dsimp only at h; omega
 ·rw [e]
  refine .inl ⟨rfl, ?_⟩
  rintro ⟨g, rfl, rfl, rfl⟩
  rw [bad_three n b3 g] at e
  cases e
theorem len_N (n b0 b1 b2 b3 : Nat) (h : ¬ ((Lib.decodeN n b0 b1 b2 b3).1 = 65533 ∧ (Lib.decodeN n b0 b1 b2 b3).2 = 1)) : Lib.runeLen ((Lib.decodeN n b0 b1 b2 b3).1 : Int) = ((Lib.decodeN n b0 b1 b2 b3).2 : Int) := by
 unfold Lib.runeLen
 rcases Lib.decodeN_shape n b0 b1 b2 b3 with ⟨c, e⟩ | ⟨c1, c2, c3, cv, e⟩ | ⟨c1, c2, c3, c4, cv, cs, e⟩ | ⟨c1, c2, c3, c4, c5, cv, cw, e⟩ | e
 ·rw [e]; dsimp only; rw [if_neg (by omega), if_pos (by omega)]; rfl
 ·rw [e]; dsimp only; rw [if_neg (by omega), if_neg (by omega), if_pos (by omega)]; rfl
 ·rw [e]; dsimp only; rw [if_neg (by omega), if_neg (by omega), if_neg (by omega), if_neg (by omega), if_pos (by omega)]; rfl
 ·rw [e]; dsimp only; rw [if_neg (by omega), if_neg (by omega), if_neg (by omega), if_neg (by omega), if_neg (by omega), if_pos (by omega)]; rfl
 ·exact (h (by rw [e]; exact ⟨rfl, rfl⟩)).elim
theorem get_data (s : ByteArray) (i : Nat) (h : i < s.size) : s.get! i = s.data[i]'h := by
 show s.data[i]! = _
 exact getElem!_pos s.data i h
theorem bad_ext (s : ByteArray) (p : Nat) (h : p + 3 ≤ s.size) : s.extract p (p + 3) = sBad ↔ (s.get! p).toNat = 239 ∧ (s.get! (p + 1)).toNat = 191 ∧ (s.get! (p + 2)).toNat = 189 := by
 rw [get_data s p (by omega), get_data s (p + 1) (by omega), get_data s (p + 2) (by omega)]
 have hd : (s.extract p (p + 3)).data = s.data.extract p (p + 3) := ByteArray.data_extract
 have hsz : s.data.size = s.size := rfl
 constructor
 ·intro e
  have h2 : s.data.extract p (p + 3) = #[239, 191, 189] := by rw [← hd, e]; rfl
  have g0 := congrArg (fun a => a[0]?) h2
  have g1 := congrArg (fun a => a[1]?) h2
  have g2 := congrArg (fun a => a[2]?) h2
  simp only [Array.getElem?_extract] at g0 g1 g2
  rw [if_pos (by omega)] at g0 g1 g2
  rw [Nat.add_zero, Array.getElem?_eq_getElem (by omega)] at g0
  rw [Array.getElem?_eq_getElem (by omega)] at g1 g2
  simp at g0 g1 g2
  rw [g0, g1, g2]
  decide
 ·rintro ⟨g0, g1, g2⟩
  apply ByteArray.ext
  rw [hd]
  apply Array.ext
  ·rw [Array.size_extract]; show min (p + 3) s.data.size - p = 3; omega
  ·intro i h1 h2
   have h3 : i < 3 := h2
   rw [Array.getElem_extract]
   have q0 : s.data[p]'(by omega) = 239 := UInt8.toNat_inj.1 g0
   have q1 : s.data[p + 1]'(by omega) = 191 := UInt8.toNat_inj.1 g1
   have q2 : s.data[p + 2]'(by omega) = 189 := UInt8.toNat_inj.1 g2
   rcases (show i = 0 ∨ i = 1 ∨ i = 2 by omega) with rfl | rfl | rfl
   ·simp only [Nat.add_zero]; exact q0
   ·exact q1
   ·exact q2
def chF (s : ByteArray) (p : Nat) : Int := if (Utf8.decode s p).1 = 65533 ∧ (s.size - p < 3 ∨ s.extract p (p + 3) ≠ sBad) then -1 else ((Utf8.decode s p).1 : Int)
theorem ch_bad (s : ByteArray) (p : Nat) (h : p < s.size) : ((Utf8.decode s p).1 = 65533 ∧ (s.size - p < 3 ∨ s.extract p (p + 3) ≠ sBad)) ↔ ((Utf8.decode s p).1 = 65533 ∧ (Utf8.decode s p).2 = 1) := by
 rw [Lib.decode_at]
 have k1 := (s.get! (p + 1)).toNat_lt
 have k2 := (s.get! (p + 2)).toNat_lt
 constructor
 ·rintro ⟨h1, h2⟩
  refine ⟨h1, ?_⟩
  rcases bad_N _ _ _ _ _ k1 k2 h1 with ⟨h3, -⟩ | ⟨h3, h4, h5⟩
  ·exact h3
  ·exfalso
   rcases h2 with h2 | h2
   ·omega
   ·exact h2 ((bad_ext s p (by omega)).2 h5)
 ·rintro ⟨h1, h2⟩
  refine ⟨h1, ?_⟩
  rcases bad_N _ _ _ _ _ k1 k2 h1 with ⟨-, h4⟩ | ⟨h3, -⟩
  ·by_cases h5 : s.size - p < 3
   ·exact .inl h5
   ·exact .inr (fun e => h4 ⟨by omega, (bad_ext s p (by omega)).1 e⟩)
  ·rw [h2] at h3; cases h3
theorem ch_len (s : ByteArray) (p : Nat) (h : ¬ ((Utf8.decode s p).1 = 65533 ∧ (Utf8.decode s p).2 = 1)) : Lib.runeLen ((Utf8.decode s p).1 : Int) = ((Utf8.decode s p).2 : Int) := by
 rw [Lib.decode_at] at h ⊢
 exact len_N _ _ _ _ _ h
end Go.Proofs.YtlhmdgaohonpbaaGreatDoor

namespace Go.Proofs.YtlhmdgaohonpbaaGreatDoor
open Go.RowKit
def chsF (s : ByteArray) : Nat → Nat → List Ch
 | 0, _ => []
 | n + 1, a => if a < s.size then ⟨chF s a, a⟩ :: chsF s n (a + (Utf8.decode s a).2) else []
theorem chs_len (s : ByteArray) : ∀ n a : Nat, (chsF s n a).length ≤ s.size - a
 | 0, _ => Nat.zero_le _
 | n + 1, a => by
  unfold chsF
  split
  ·next h =>
   have h1 := chs_len s n (a + (Utf8.decode s a).2)
   have h2 := width1 s a h
   rw [List.length_cons]
   omega
  ·exact Nat.zero_le _
structure Pos (s : ByteArray) (cs : List Int) (i : Nat) (a : Int) : Prop where
 ex : ∃ n at_ : Nat, a = at_ ∧ s.size ≤ at_ + n ∧ cs.drop i = codes (chsF s n at_)
 hi : i ≤ cs.length
theorem pos_zero (s : ByteArray) : Pos s (codes (chsF s s.size 0)) 0 0 := ⟨⟨s.size, 0, rfl, by omega, rfl⟩, Nat.zero_le _⟩
theorem chs_end (s : ByteArray) (n a : Nat) (h : s.size ≤ a) : chsF s n a = [] := by
 cases n with
 | zero => rfl
 | succ n => unfold chsF; rw [if_neg (by omega)]
theorem pos_end {s : ByteArray} {cs : List Int} {i : Nat} {a : Int} (h : Pos s cs i a) (ha : (s.size : Int) ≤ a) : cs[i]? = none ∧ i = cs.length := by
 obtain ⟨⟨n, at_, rfl, hn, hd⟩, hi⟩ := h
 rw [chs_end s n at_ (by omega)] at hd
 have h1 : cs.length ≤ i := List.drop_eq_nil_iff.1 hd
 exact ⟨List.getElem?_eq_none h1, by omega⟩
theorem pos_at {s : ByteArray} {cs : List Int} {i : Nat} {a : Int} (h : Pos s cs i a) (ha : ¬ (s.size : Int) ≤ a) : ∃ at_ : Nat, a = at_ ∧ at_ < s.size ∧ cs[i]? = some (chF s at_) ∧ Pos s cs (i + 1) ((at_ : Int) + ((Utf8.decode s at_).2 : Int)) := by
 obtain ⟨⟨n, at_, rfl, hn, hd⟩, hi⟩ := h
 have hlt : at_ < s.size := by omega
 cases n with
 | zero => omega
 | succ n =>
  unfold chsF at hd
  rw [if_pos hlt] at hd
  have hw := width1 s at_ hlt
  have h1 : cs[i]? = some (chF s at_) := by
   have h2 := congrArg (fun l => l[0]?) hd
   simp only [List.getElem?_drop, Nat.add_zero] at h2
   rw [h2]; rfl
  refine ⟨at_, rfl, hlt, h1, ⟨⟨n, at_ + (Utf8.decode s at_).2, by omega, by omega, ?_⟩, (List.getElem?_eq_some_iff.1 h1).1⟩⟩
  have h3 : cs.drop (i + 1) = (cs.drop i).drop 1 := by rw [List.drop_drop]
  rw [h3, hd]; rfl
structure Rl (s : ByteArray) (cs : List Int) (D : Int) (st : St) (r : Rs) : Prop where
 e : st.e = 0
 pos : Pos s cs st.i r.at_
 deep : st.deep = D
 depth : r.depth = D
theorem peek_three {s : ByteArray} {cs : List Int} {D : Int} {st : St} {r : Rs} (h : Rl s cs D st r) :
  (peekF s r = .ok (-1) r ∧ rnF cs st = -2 ∧ st.i = cs.length) ∨ (peekF s r = .bad r.at_ 8 ∧ rnF cs st = -1 ∧ st.i < cs.length) ∨ (0 ≤ rnF cs st ∧ peekF s r = .ok (rnF cs st) r ∧ Rl s cs D (stepI st) (skipF (rnF cs st) r) ∧ st.i < cs.length) := by
 have hr : rnF cs st = (cs[st.i]?).getD (-2) := by unfold rnF; rw [if_neg (by rw [h.e]; decide)]
 by_cases h1 : (s.size : Int) ≤ r.at_
 ·obtain ⟨h2, h3⟩ := pos_end h.pos h1
  refine .inl ⟨by unfold peekF; rw [if_pos h1], by rw [hr, h2]; rfl, h3⟩
 ·obtain ⟨a, ha, hlt, h2, h3⟩ := pos_at h.pos h1
  have hil := (List.getElem?_eq_some_iff.1 h2).1
  have hd : decF s r.at_ = Utf8.decode s a := by
   rw [ha]
   unfold decF Lib.decodeGo
   have hs : (s.extract (a : Int).toNat s.size).size ≠ 0 := by rw [ByteArray.size_extract]; omega
   rw [if_neg hs, Lib.tail_decode]
   rfl
  have hw := width1 s a hlt
  have hb := ch_bad s a hlt
  rw [h2] at hr
  have hr2 : rnF cs st = chF s a := hr
  by_cases h4 : (Utf8.decode s a).1 = 65533 ∧ (Utf8.decode s a).2 = 1
  ·refine .inr (.inl ⟨?_, ?_, hil⟩)
   ·unfold peekF
    rw [if_neg h1, hd, if_pos ⟨by omega, by omega⟩]
   ·rw [hr2]; unfold chF; rw [if_pos (hb.2 h4)]
  ·have h5 : chF s a = ((Utf8.decode s a).1 : Int) := by unfold chF; rw [if_neg (fun e => h4 (hb.1 e))]
   refine .inr (.inr ⟨by rw [hr2, h5]; omega, ?_, ?_, hil⟩)
   ·unfold peekF
    rw [if_neg h1, hd, if_neg (fun e => h4 ⟨by omega, by omega⟩), hr2, h5]
   ·refine ⟨h.e, ?_, h.deep, h.depth⟩
    show Pos s cs (st.i + 1) (r.at_ + Lib.runeLen (rnF cs st))
    rw [hr2, h5, ch_len s a h4, ha]
    exact h3
def Agree {α : Type} (x : Out α) (st : St) (good : α → Rs → Prop) : Prop := match x with | .ok a r => good a r | .bad _ e => st.e = e ∧ e ≠ 0
theorem on_ag {α β : Type} {x : Out α} {f : α → Rs → Out β} {st st2 : St} {good : α → Rs → Prop} {good2 : β → Rs → Prop} (h : Agree x st good) (h2 : ∀ a r, good a r → Agree (f a r) st2 good2) (hs : st.e ≠ 0 → st2.e = st.e) : Agree (x.on f) st2 good2 := by
 cases x with
 | ok a r => exact h2 a r h
 | bad a e => exact ⟨(hs (by rw [h.1]; exact h.2)).trans h.1, h.2⟩
theorem ag_mono {α : Type} {x : Out α} {st : St} {good good2 : α → Rs → Prop} (h : Agree x st good) (hg : ∀ a r, good a r → good2 a r) : Agree x st good2 := by
 cases x with
 | ok a r => exact hg a r h
 | bad a e => exact h
theorem on_assoc {α β γ : Type} (x : Out α) (f : α → Rs → Out β) (g : β → Rs → Out γ) : (x.on f).on g = x.on fun a r => (f a r).on g := by cases x <;> rfl
theorem fail_ag {s : ByteArray} {cs : List Int} {D : Int} {st : St} {r : Rs} (h : Rl s cs D st r) (e : Int) : (failS e st).e = e := by
 unfold failS; rw [if_pos h.e]
structure Mo (st st' : St) : Prop where
 stick : st.e ≠ 0 → st'.e = st.e
 grow : ∃ x, st'.L = st.L ++ x
theorem Mo.refl (st : St) : Mo st st := ⟨fun _ => rfl, [], (List.append_nil _).symm⟩
theorem Mo.trans {a b c : St} (h : Mo a b) (h' : Mo b c) : Mo a c := by
 obtain ⟨x, hx⟩ := h.grow
 obtain ⟨y, hy⟩ := h'.grow
 exact ⟨fun e => (h'.stick (by rw [h.stick e]; exact e)).trans (h.stick e), x ++ y, by rw [hy, hx, List.append_assoc]⟩
theorem mo_fail (e : Int) (st : St) : Mo st (failS e st) := by
 unfold failS
 split
 ·next h => exact ⟨fun g => (g h).elim, [], (List.append_nil _).symm⟩
 ·exact Mo.refl _
theorem mo_at {st st' : St} (he : st'.e = st.e) (hL : st'.L = st.L) : Mo st st' := ⟨fun _ => he, [], by rw [hL, List.append_nil]⟩
theorem mo_step (st : St) : Mo st (stepI st) := mo_at rfl rfl
theorem mo_add (n : NodeC) (st : St) : Mo st (addN n st).2 := ⟨fun _ => rfl, [n], rfl⟩
theorem mo_esc (cs : List Int) (st : St) : Mo st (escR cs st).2 := by
 unfold escR
 split
 ·exact (mo_step st).trans (mo_step _)
 ·split
  ·exact (mo_step st).trans (mo_fail _ _)
  ·exact (mo_step st).trans (mo_step _)
theorem mo_single (cs : List Int) (st : St) : Mo st (singleR cs st).2 := by
 unfold singleR
 split
 ·split <;> exact mo_esc cs st
 ·split
  ·exact mo_fail _ _
  ·exact mo_step st
theorem mo_last (cs : List Int) (lo : Int) (st : St) : Mo st (lastR cs lo st).2 := by
 unfold lastR
 split
 ·exact mo_fail _ _
 ·split
  ·show Mo st (failS 8 { (singleR cs st).2 with i := if rnF cs st = 92 then st.i + 1 else st.i })
   have h0 : Mo (singleR cs st).2 { (singleR cs st).2 with i := if rnF cs st = 92 then st.i + 1 else st.i } := mo_at rfl rfl
   exact ((mo_single cs st).trans h0).trans (mo_fail 8 _)
  ·exact mo_single cs st
theorem mo_item (cs : List Int) (st : St) : Mo st (itemR cs st).2 := by
 unfold itemR
 simp only
 split
 ·exact mo_single cs st
 ·split
  ·exact ((mo_single cs st).trans (mo_step _)).trans (mo_last cs _ _)
  ·exact mo_single cs st
theorem mo_classL (cs : List Int) : ∀ (n : Nat) (acc : List Sp) (st : St), Mo st (classL cs n acc st).2
 | 0, _, st => Mo.refl _
 | n + 1, acc, st => by
  unfold classL
  split
  ·exact Mo.refl _
  ·split
   ·exact mo_step st
   ·exact (mo_item cs st).trans (mo_classL cs n _ _)
theorem mo_class (cs : List Int) (st : St) : Mo st (classR cs st).2 := by
 unfold classR
 have h1 : Mo st (if decide (rnF cs (stepI st) = 94) = true then stepI (stepI st) else stepI st) := by
  split
  ·exact (mo_step _).trans (mo_step _)
  ·exact mo_step _
 have h2 := h1.trans (mo_classL cs (cs.length + 2) [] _)
 simp only
 split
 ·exact h2
 ·exact h2.trans (mo_add _ _)
def MoA (alt : St → Int × St) : Prop := ∀ st, Mo st (alt st).2
theorem mo_atom {alt : St → Int × St} (hA : MoA alt) (cs : List Int) (st : St) : Mo st (atomR alt cs st).2 := by
 unfold atomR
 simp only
 split
 ·split
  ·exact mo_fail _ _
  ·have h0 : Mo st { stepI st with deep := st.deep + 1 } := mo_at rfl rfl
   have h1 : Mo st (alt { stepI st with deep := st.deep + 1 }).2 := h0.trans (hA _)
   split
   ·exact h1.trans (mo_at rfl rfl)
   ·exact h1.trans (mo_fail _ _)
 ·split
  ·exact mo_class cs st
  ·split
   ·exact (mo_step st).trans (mo_add _ _)
   ·split
    ·exact (mo_esc cs st).trans (mo_add _ _)
    ·split
     ·exact mo_fail _ _
     ·exact (mo_step st).trans (mo_add _ _)
theorem mo_piece {alt : St → Int × St} (hA : MoA alt) (cs : List Int) (st : St) : Mo (atomR alt cs st).2 (pieceR alt cs st).2 := by
 unfold pieceR
 simp only
 split
 ·exact Mo.refl _
 ·exact (mo_step _).trans (mo_add _ _)
theorem mo_branchL {alt : St → Int × St} (hA : MoA alt) (cs : List Int) : ∀ (k : Nat) (n : Int) (st : St), Mo st (branchL alt cs k n st).2
 | 0, _, _ => Mo.refl _
 | k + 1, n, st => by
  unfold branchL
  split
  ·exact (((mo_atom hA cs st).trans (mo_piece hA cs st)).trans (mo_add _ _)).trans (mo_branchL hA cs k _ _)
  ·exact Mo.refl _
theorem mo_branch {alt : St → Int × St} (hA : MoA alt) (cs : List Int) (st : St) : Mo st (branchR alt cs st).2 := (mo_add _ _).trans (mo_branchL hA cs _ _ _)
theorem mo_altL {alt : St → Int × St} (hA : MoA alt) (cs : List Int) : ∀ (k : Nat) (n : Int) (st : St), Mo st (altL alt cs k n st).2
 | 0, _, _ => Mo.refl _
 | k + 1, n, st => by
  unfold altL
  split
  ·exact (((mo_step _).trans (mo_branch hA cs _)).trans (mo_add _ _)).trans (mo_altL hA cs k _ _)
  ·exact Mo.refl _
theorem mo_alt (cs : List Int) : ∀ d : Nat, MoA (altR cs d)
 | 0 => fun st => Mo.refl _
 | d + 1 => fun st => (mo_branch (mo_alt cs d) cs st).trans (mo_altL (mo_alt cs d) cs _ _ _)
end Go.Proofs.YtlhmdgaohonpbaaGreatDoor

namespace Go.Proofs.YtlhmdgaohonpbaaGreatDoor
open Go.RowKit Go.Proofs.YtlhmdgaohonpbaaGreatDoor.MapRaw Go.ChangeMaps
theorem info_ch : (Tryz.prog.info? 178).map (fun i => (i.zero, i.size, i.bytes)) = some (some (.agg #[.int .i32 0, .int .i64 0]), 2, 16) := by kernel_rfl
theorem ch_enc_len (x : Ch) : x.enc.length = 2 := rfl
structure ChsTo (w : World) (s : ByteArray) (pos : Nat) (v : Value) (acc : List Ch) (W : World) : Prop where
 it : W.heap[w.heap.size]? = some (.stringIter s pos)
 own : W.ownsRow (w.heap.size + 1) 178 2 v acc.length (acc.flatMap Ch.enc)
 below : Below w.heap.size w W
theorem ChsTo.size {w W : World} {s : ByteArray} {pos : Nat} {v : Value} {acc : List Ch} (h : ChsTo w s pos v acc W) : w.heap.size + 1 ≤ W.heap.size := (Array.getElem?_eq_some_iff.1 h.it).1
theorem ChsTo.step {w W : World} {s : ByteArray} {pos p2 : Nat} {v : Value} {acc : List Ch} (h : ChsTo w s pos v acc W) : ChsTo w s p2 v acc (setBlock W w.heap.size (.stringIter s p2)) := by
 have hsz := h.size
 refine ⟨setBlock_at (by omega) _, ownsRow_move h.own fun k hk => set_other _ _ _ _ (by have := (ownsRow_blk h.own k hk).1; omega), ⟨h.below.os, h.below.tape, h.below.output, by rw [set_size]; exact h.below.size, fun k hk => (set_other _ _ _ _ (by omega)).trans (h.below.block k hk)⟩⟩
theorem ChsTo.push {w W w1 : World} {s : ByteArray} {pos : Nat} {v v1 : Value} {acc : List Ch} {c : Ch} (h : ChsTo w s pos v acc W) (ho : w1.ownsRow (w.heap.size + 1) 178 2 v1 (acc.length + 1) (acc.flatMap Ch.enc ++ c.enc)) (hb : Below (w.heap.size + 1) W w1) : ChsTo w s pos v1 (acc ++ [c]) w1 := by
 refine ⟨(hb.block _ (by omega)).trans h.it, ?_, ⟨hb.os.trans h.below.os, hb.tape.trans h.below.tape, hb.output.trans h.below.output, Nat.le_trans h.below.size hb.size, fun k hk => (hb.block k (by omega)).trans (h.below.block k hk)⟩⟩
 rw [List.length_append, List.flatMap_append]
 simpa using ho
theorem ChsTo.below' {w W w1 : World} {s : ByteArray} {pos : Nat} {v : Value} {acc : List Ch} (h : ChsTo w s pos v acc W) (hb : Below W.heap.size W w1) : ChsTo w s pos v acc w1 := ⟨blk_below h.it hb, own_below h.own hb, bthen h.below hb⟩
theorem ext_list (x : ByteArray) : (x.toList == [239, 191, 189]) = true ↔ x = sBad := by
 rw [beq_iff_eq, ByteArray.toList_eq]
 constructor
 ·intro h
  apply ByteArray.ext
  exact Array.ext' h
 ·rintro rfl; rfl
def ChsPost (w : World) (l : List Ch) (e : Ending) (w' : World) : Prop := ∃ v, e = .returned v ∧ Slc 2 Ch.enc w' (fun k => w.heap.size ≤ k) v l ∧ Below w.heap.size w w'
def allChs (s : ByteArray) : List Ch := chsF s s.size 0
set_option maxRecDepth 100000 in
set_option maxHeartbeats 4000000 in
theorem k_chars (s : ByteArray) (w : World) (hs : s.size ≤ 256) : Calls Tryz.prog 105 #[.string s] w (ChsPost w (allChs s)) := by
 have HRn : Hid (chsF s s.size 0 = allChs s) := Lib.hid rfl
 generalize allChs s = tot at *
 go_enter Tryz.func105, Tryz.ntmps105
 go_wp2_with fail
 have h0 : ChsTo w s 0 (.slice none 0 0) [] (w.iter s 0) := ⟨World.iter_heap w s 0, ⟨rfl, .inl ⟨rfl, rfl⟩⟩, Below.alloc (Below.refl _ _) (Nat.le_refl _) _⟩
 have H0 := Lib.hid h0
 clear h0
 go_loopw [3] (fun ov wr => ∃ (pos n : Nat) (acc : List Ch), ChsTo w s pos ov acc wr ∧ acc ++ chsF s n pos = tot ∧ s.size ≤ pos + n ∧ acc.length ≤ pos ∧ acc.length ≤ s.size) (fun _ wr => s.size - wr.iterPos w.heap.size)
 case atStart => exact ⟨0, s.size, [], H0.out, HRn.out, by omega, by simp, by simp⟩
 case round =>
  obtain ⟨pos, n, acc, hR, htot, hn, hacc, hacc2⟩ := hrel
  have HR := Lib.hid hR
  obtain ⟨Av, cv, e3⟩ := own_slice hR.own
  subst e3
  by_cases hp : pos < s.size
  ·have hnx : ∀ ty, (Instr.next (.pointer (some ⟨w.heap.size, 0, none⟩)) true ty).run Tryz.prog wr = _ := fun ty => run_next_at wr w.heap.size s pos ty hR.it hp
   have hwd := width1 s pos hp
   have htot2 : acc ++ ⟨chF s pos, pos⟩ :: chsF s (n - 1) (pos + (Utf8.decode s pos).2) = tot := by
    cases n with
    | zero => omega
    | succ n => have h9 := htot; rw [chsF, if_pos hp] at h9; exact h9
   have HRs := Lib.hid (hR.step (p2 := pos + (Utf8.decode s pos).2))
   have HCf : Hid (chF s pos = if (Utf8.decode s pos).1 = 65533 ∧ (s.size - pos < 3 ∨ s.extract pos (pos + 3) ≠ sBad) then -1 else ((Utf8.decode s pos).1 : Int)) := Lib.hid rfl
   generalize chF s pos = cf at *
   generalize (Utf8.decode s pos).1 = dc at *
   generalize (Utf8.decode s pos).2 = dn at *
   have hsm : acc.length < s.size ∧ acc.length + 1 ≤ pos + dn := by omega
   have HT := Lib.hid htot2
   have HNn : Hid (s.size ≤ pos + dn + (n - 1) ∧ pos < pos + dn ∧ pos < s.size) := Lib.hid (by omega)
   have HSm := Lib.hid hsm
   have HIt := Lib.hid hR.it
   have hlen : (acc.length + 1) * 16 ≤ 140737488355328 := by omega
   have hw1 : IntKind.i64.wrap ((s.size : Int) - (pos : Int)) = (s.size : Int) - (pos : Int) := IntWalk.i64_in _ (by omega)
   have hw2 : IntKind.i64.wrap ((pos : Int) + 3) = (pos : Int) + 3 := IntWalk.i64_in _ (by omega)
   generalize setBlock wr w.heap.size (.stringIter s (pos + dn)) = w2 at *
   clear hR htot hn hacc hacc2 htot2 hsm hwd
   by_cases hc : dc = 65533
   ·by_cases h3 : s.size - pos < 3
    ·have hcf : cf = -1 := by rw [HCf.out, if_pos ⟨hc, .inl h3⟩]
     have hd1 : decide ((s.size : Int) - (pos : Int) < 3) = true := decide_eq_true (by omega)
     subst hc hcf
     clear HCf
     have HBa : Hid (ChsTo w s (pos + dn) (.slice Av acc.length cv) acc (w2.alloc (.cells #[.int .i32 (-1), .int .i64 pos] 178))) := Lib.hid (HRs.out.below' (balloc (Below.refl _ _) _))
     have hsz := HBa.out.size
     go_wp2_with (at_builtin; refine wpList_app2 (w0 := w2.alloc (.cells #[.int .i32 (-1), .int .i64 pos] 178)) (w.heap.size + 1) rfl _ _ 149 178 _ 2 16 1 (Ch.enc ⟨-1, pos⟩) rfl Tryz.underlying149 info_ch rfl (by decide) (by decide) (.slice Av acc.length cv) (.slice (some ⟨w2.heap.size, 0, none⟩) 1 1) acc.length (acc.flatMap Ch.enc) ?hs ?hxe ?hx HBa.out.own (Below.refl _ _) hsz hlen ?_)
     try case hs => rfl
     try case hxe => rfl
     case hx => exact src_block (m := 1) (size := 2) (cs := #[.int .i32 (-1), .int .i64 pos]) (blk_new _ _) rfl (fun u hu => by simp at hu; rcases hu with rfl | rfl <;> rfl) 1
     intro v5 w5 hO5 hB5 hg5 hat5
     have HR5 := Lib.hid (HBa.out.push (c := ⟨-1, pos⟩) hO5 hB5)
     clear hO5 hB5 hg5 hat5 hsz
     go_wp2_with fail
     go_roundw
     case rel => exact ⟨pos + dn, n - 1, acc ++ [⟨-1, pos⟩], HR5.out, by rw [← HT.out]; simp, HNn.out.1, by rw [List.length_append]; exact HSm.out.2, by rw [List.length_append]; exact HSm.out.1⟩
     case measure => rw [iterPos_at HR5.out.it, iterPos_at HIt.out]; have := HNn.out; omega
    ·have hd1 : decide ((s.size : Int) - (pos : Int) < 3) = false := decide_eq_false (by omega)
     have hb0 : (0 : Int) ≤ (pos : Int) := by omega
     have hb1 : (pos : Int) ≤ (pos : Int) + 3 := by omega
     have hb2 : (pos : Int) + 3 ≤ (s.size : Int) := by omega
     by_cases hx : s.extract pos (pos + 3) = sBad
     ·have hcf : cf = dc := by rw [HCf.out, if_neg (fun e => e.2.elim h3 (fun e => e hx))]
      have hq := (ext_list _).2 hx
      clear hx
      subst hc hcf
      clear HCf
      have HBa : Hid (ChsTo w s (pos + dn) (.slice Av acc.length cv) acc (w2.alloc (.cells #[.int .i32 (65533), .int .i64 pos] 178))) := Lib.hid (HRs.out.below' (balloc (Below.refl _ _) _))
      have hsz := HBa.out.size
      go_wp2_with (at_builtin; refine wpList_app2 (w0 := w2.alloc (.cells #[.int .i32 (65533), .int .i64 pos] 178)) (w.heap.size + 1) rfl _ _ 149 178 _ 2 16 1 (Ch.enc ⟨65533, pos⟩) rfl Tryz.underlying149 info_ch rfl (by decide) (by decide) (.slice Av acc.length cv) (.slice (some ⟨w2.heap.size, 0, none⟩) 1 1) acc.length (acc.flatMap Ch.enc) ?hs ?hxe ?hx HBa.out.own (Below.refl _ _) hsz hlen ?_)
      try case hs => rfl
      try case hxe => rfl
      case hx => exact src_block (m := 1) (size := 2) (cs := #[.int .i32 (65533), .int .i64 pos]) (blk_new _ _) rfl (fun u hu => by simp at hu; rcases hu with rfl | rfl <;> rfl) 1
      intro v5 w5 hO5 hB5 hg5 hat5
      have HR5 := Lib.hid (HBa.out.push (c := ⟨65533, pos⟩) hO5 hB5)
      clear hO5 hB5 hg5 hat5 hsz
      go_wp2_with fail
      go_roundw
      case rel => exact ⟨pos + dn, n - 1, acc ++ [⟨65533, pos⟩], HR5.out, by rw [← HT.out]; simp, HNn.out.1, by rw [List.length_append]; exact HSm.out.2, by rw [List.length_append]; exact HSm.out.1⟩
      case measure => rw [iterPos_at HR5.out.it, iterPos_at HIt.out]; have := HNn.out; omega
     ·have hcf : cf = -1 := by rw [HCf.out, if_pos ⟨hc, .inr hx⟩]
      have hq : ((s.extract pos (pos + 3)).toList == [239, 191, 189]) = false := by cases hz : ((s.extract pos (pos + 3)).toList == [239, 191, 189]) with | false => rfl | true => exact (hx ((ext_list _).1 hz)).elim
      clear hx
      subst hc hcf
      clear HCf
      have HBa : Hid (ChsTo w s (pos + dn) (.slice Av acc.length cv) acc (w2.alloc (.cells #[.int .i32 (-1), .int .i64 pos] 178))) := Lib.hid (HRs.out.below' (balloc (Below.refl _ _) _))
      have hsz := HBa.out.size
      go_wp2_with (at_builtin; refine wpList_app2 (w0 := w2.alloc (.cells #[.int .i32 (-1), .int .i64 pos] 178)) (w.heap.size + 1) rfl _ _ 149 178 _ 2 16 1 (Ch.enc ⟨-1, pos⟩) rfl Tryz.underlying149 info_ch rfl (by decide) (by decide) (.slice Av acc.length cv) (.slice (some ⟨w2.heap.size, 0, none⟩) 1 1) acc.length (acc.flatMap Ch.enc) ?hs ?hxe ?hx HBa.out.own (Below.refl _ _) hsz hlen ?_)
      try case hs => rfl
      try case hxe => rfl
      case hx => exact src_block (m := 1) (size := 2) (cs := #[.int .i32 (-1), .int .i64 pos]) (blk_new _ _) rfl (fun u hu => by simp at hu; rcases hu with rfl | rfl <;> rfl) 1
      intro v5 w5 hO5 hB5 hg5 hat5
      have HR5 := Lib.hid (HBa.out.push (c := ⟨-1, pos⟩) hO5 hB5)
      clear hO5 hB5 hg5 hat5 hsz
      go_wp2_with fail
      go_roundw
      case rel => exact ⟨pos + dn, n - 1, acc ++ [⟨-1, pos⟩], HR5.out, by rw [← HT.out]; simp, HNn.out.1, by rw [List.length_append]; exact HSm.out.2, by rw [List.length_append]; exact HSm.out.1⟩
      case measure => rw [iterPos_at HR5.out.it, iterPos_at HIt.out]; have := HNn.out; omega
   ·have hcf : cf = dc := by rw [HCf.out, if_neg (fun e => hc e.1)]
    have hd0 : decide ((dc : Int) = 65533) = false := decide_eq_false (by omega)
    subst hcf
    clear HCf
    have HBa : Hid (ChsTo w s (pos + dn) (.slice Av acc.length cv) acc (w2.alloc (.cells #[.int .i32 (dc), .int .i64 pos] 178))) := Lib.hid (HRs.out.below' (balloc (Below.refl _ _) _))
    have hsz := HBa.out.size
    go_wp2_with (at_builtin; refine wpList_app2 (w0 := w2.alloc (.cells #[.int .i32 (dc), .int .i64 pos] 178)) (w.heap.size + 1) rfl _ _ 149 178 _ 2 16 1 (Ch.enc ⟨dc, pos⟩) rfl Tryz.underlying149 info_ch rfl (by decide) (by decide) (.slice Av acc.length cv) (.slice (some ⟨w2.heap.size, 0, none⟩) 1 1) acc.length (acc.flatMap Ch.enc) ?hs ?hxe ?hx HBa.out.own (Below.refl _ _) hsz hlen ?_)
    try case hs => rfl
    try case hxe => rfl
    case hx => exact src_block (m := 1) (size := 2) (cs := #[.int .i32 (dc), .int .i64 pos]) (blk_new _ _) rfl (fun u hu => by simp at hu; rcases hu with rfl | rfl <;> rfl) 1
    intro v5 w5 hO5 hB5 hg5 hat5
    have HR5 := Lib.hid (HBa.out.push (c := ⟨dc, pos⟩) hO5 hB5)
    clear hO5 hB5 hg5 hat5 hsz
    go_wp2_with fail
    go_roundw
    case rel => exact ⟨pos + dn, n - 1, acc ++ [⟨dc, pos⟩], HR5.out, by rw [← HT.out]; simp, HNn.out.1, by rw [List.length_append]; exact HSm.out.2, by rw [List.length_append]; exact HSm.out.1⟩
    case measure => rw [iterPos_at HR5.out.it, iterPos_at HIt.out]; have := HNn.out; omega
  ·have hnx : ∀ ty, (Instr.next (.pointer (some ⟨w.heap.size, 0, none⟩)) true ty).run Tryz.prog wr = _ := fun ty => run_next_stop wr w.heap.size s pos ty hR.it hp
   have hacc3 : acc = tot := by
    rw [← htot]
    cases n with
    | zero => simp [chsF]
    | succ n => rw [chsF, if_neg hp]; simp
   subst hacc3
   clear hR htot hn hacc hacc2 HRn
   go_wp2_with fail
   go_ret
   exact ⟨_, rfl, own_slc (enc := Ch.enc) ch_enc_len rfl (own_shift HR.out.own (Nat.le_succ _)), HR.out.below⟩
end Go.Proofs.YtlhmdgaohonpbaaGreatDoor
