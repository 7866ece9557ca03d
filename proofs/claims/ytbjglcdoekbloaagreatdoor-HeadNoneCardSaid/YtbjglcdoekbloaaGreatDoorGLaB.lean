import Derived.Test.YtbjglcdoekbloaaGreatDoorGLaA
set_option linter.unusedSimpArgs false
set_option linter.unusedVariables false
set_option linter.unusedSectionVars false
/- the law's wrote. -/
namespace Go.Proofs.YtbjglcdoekbloaaGreatDoor
open Go.RowKit Go.Proofs.YtbjglcdoekbloaaGreatDoor.MapRaw Go.ChangeMaps

/-- records, one by one -/
def recAll : List Rec → Hd → Int × Hd
  | [], H => (0, H)
  | r :: l, H => if (recordF H r).1 ≠ 0 then ((recordF H r).1, H) else recAll l (recordF H r).2
structure RecTo (l : List Rec) (H : Hd) (k : Nat) (H' : Hd) : Prop where
  eq : recAll l H = recAll (l.drop k) H'
theorem RecTo.start (l : List Rec) (H : Hd) : RecTo l H 0 H := ⟨rfl⟩
theorem RecTo.round {l : List Rec} {H H' : Hd} {k : Nat} (h : RecTo l H k H') (h0 : (recAll l H).1 = 0) (hk : k < l.length) : (recordF H' l[k]).1 = 0 ∧ RecTo l H (k + 1) (recordF H' l[k]).2 := by
  have e := h.eq
  rw [List.drop_eq_getElem_cons hk, recAll] at e
  by_cases hr : (recordF H' l[k]).1 = 0
  · rw [if_neg (by simp [hr])] at e; exact ⟨hr, ⟨e⟩⟩
  · rw [if_pos hr] at e; rw [e] at h0; exact (hr h0).elim
theorem RecTo.done {l : List Rec} {H H' : Hd} {k : Nat} (h : RecTo l H k H') (hk : ¬ k < l.length) : recAll l H = (0, H') := by
  rw [h.eq, List.drop_eq_nil_of_le (by omega)]; rfl
/-- what a record must be to be handed in -/
def RecFit (r : Rec) : Prop := U32 r.ref ∧ SzL r.lab ∧ ∀ x ∈ r.pts, U32 x.ref
/-- the head turned, all else stays -/
structure Turned (w : World) (X : List Nat) (o : HLoc) (w' : World) (X' : List Nat) (o' : HLoc) (H' : Hd) : Prop where
  head : HeadAt w' X' o' H'
  hp : o'.hp = o.hp
  more : MoreX w X X'
  apart : Apart (fun k => k ∈ X) w w'
  fine : ApX o o' w w'
theorem Turned.start {w : World} {X : List Nat} {o : HLoc} {H : Hd} (h : HeadAt w X o H) : Turned w X o w X o H := ⟨h, rfl, MoreX.refl _ _, Apart.refl _ _, ApX.same (Below.refl _ _)⟩
theorem Turned.below {w w' w2 : World} {X X' : List Nat} {o o' : HLoc} {H' : Hd} (h : Turned w X o w' X' o' H') (hb : Below w'.heap.size w' w2) : Turned w X o w2 X' o' H' := ⟨h.head.below hb, h.hp, h.more, h.apart.then hb, h.fine.then hb⟩
theorem Turned.record {w w1 w2 : World} {X X1 : List Nat} {o o1 : HLoc} {H1 : Hd} {r : Int × Hd} {e : Ending} (h : Turned w X o w1 X1 o1 H1) (ht : TurnPost w1 X1 o1 r e w2) : ∃ o2 X2, Turned w X o w2 X2 o2 r.2 := by
  obtain ⟨_, o', X', h1, h2, h3, h4⟩ := ht
  obtain ⟨o2, X2, g1, g2, g3, g4⟩ := TurnRest.head h.head (show TurnRest w1 X1 o1 r.2 w2 from ⟨o', X', h1, h2, h3, h4⟩)
  have g5 : Apart (fun k => k ∈ X1) w1 w2 := g4.apart.mono (fun k _ hk => h.head.inn.bsub k hk)
  refine ⟨o2, X2, g1, g2.trans h.hp, h.more.trans g3 h.apart.size, h.apart.trans g5 (fun i hi hm => ?_), h.fine.trans g4⟩
  exact (h.more.new i hm).elim id (fun h => by omega)
theorem Turned.pre {w0 w w' : World} {X X' : List Nat} {o o' : HLoc} {H' : Hd} (hb : Below w0.heap.size w0 w) (h : Turned w X o w' X' o' H') : Turned w0 X o w' X' o' H' :=
  ⟨h.head, h.hp, ⟨h.more.old, fun k hk => (h.more.new k hk).imp id (fun h => Nat.le_trans hb.size h)⟩, (below_apart hb _).trans h.apart (fun _ _ h => h), h.fine.pre hb⟩
theorem Turned.slc {α : Type} {sz : Nat} {enc : α → List Value} {w w' : World} {X X' : List Nat} {o o' : HLoc} {H' : Hd} {v : Value} {l : List α} (ht : Turned w X o w' X' o' H') (h : Slc sz enc w (fun k => k ∉ X) v l) : Slc sz enc w' (fun k => k ∉ X') v l := h.turn ht.apart ht.more
end Go.Proofs.YtbjglcdoekbloaaGreatDoor
