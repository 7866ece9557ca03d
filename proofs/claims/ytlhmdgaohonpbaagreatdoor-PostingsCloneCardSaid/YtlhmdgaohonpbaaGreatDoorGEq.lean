import Derived.Test.YtlhmdgaohonpbaaGreatDoorGRxG
import Derived.Test.YtlhmdgaohonpbaaGreatDoorGKA
set_option linter.unusedSimpArgs false
set_option linter.unusedVariables false
set_option linter.unusedSectionVars false
namespace Go.Proofs.YtlhmdgaohonpbaaGreatDoor
open Go.RowKit
def At (l : List Bool) (k : Nat) : Prop := l[k]? = some true
theorem at_ext {a b : List Bool} (hl : a.length = b.length) (h : ∀ k, At a k ↔ At b k) : a = b := by
 apply List.ext_getElem hl
 intro k h1 h2
 have hk := h k
 unfold At at hk
 rw [List.getElem?_eq_getElem h1, List.getElem?_eq_getElem h2] at hk
 simp only [Option.some.injEq] at hk
 cases ha : a[k] <;> cases hb : b[k] <;> simp_all
theorem at_join {a b : List Bool} (hl : b.length = a.length) (k : Nat) : At (joinB a b) k ↔ At a k ∨ At b k := by
 unfold At joinB
 rw [List.getElem?_zipWith]
 by_cases hk : k < a.length
 ·rw [List.getElem?_eq_getElem hk, List.getElem?_eq_getElem (by omega : k < b.length)]
  simp
 ·rw [List.getElem?_eq_none (by omega), List.getElem?_eq_none (by omega)]
  simp
theorem at_new {a b : List Bool} (hl : b.length = a.length) (k : Nat) : At (newB a b) k ↔ At b k ∧ ¬ At a k := by
 unfold At newB
 rw [List.getElem?_zipWith]
 by_cases hk : k < a.length
 ·rw [List.getElem?_eq_getElem hk, List.getElem?_eq_getElem (by omega : k < b.length)]
  simp
 ·rw [List.getElem?_eq_none (by omega), List.getElem?_eq_none (by omega)]
  simp
theorem more_at {a b : List Bool} (hl : b.length = a.length) (h : moreB a b = false) (k : Nat) (hk : At b k) : At a k := by
 refine Classical.byContradiction fun hn => ?_
 have h1 := (at_new hl k).2 ⟨hk, hn⟩
 unfold moreB at h
 have h2 := (List.any_eq_false.1 h) true (by unfold At at h1; exact List.mem_of_getElem? h1)
 exact h2 rfl
inductive Star (R : Nat → Nat → Prop) : Nat → Nat → Prop
 | refl (j : Nat) : Star R j j
 | head {j m k : Nat} : R j m → Star R m k → Star R j k
def Plus (R : Nat → Nat → Prop) (j k : Nat) : Prop := ∃ m, R j m ∧ Star R m k
theorem star_or {R : Nat → Nat → Prop} {j k : Nat} : Star R j k ↔ j = k ∨ Plus R j k := by
 constructor
 ·intro h
  cases h with
  | refl => exact .inl rfl
  | head h1 h2 => exact .inr ⟨_, h1, h2⟩
 ·rintro (rfl | ⟨m, h1, h2⟩)
  ·exact .refl _
  ·exact .head h1 h2
theorem star_in {R : Nat → Nat → Prop} {S : Nat → Prop} (hS : ∀ j k, S j → R j k → S k) {j k : Nat} (h : Star R j k) : S j → S k := by
 induction h with
 | refl => exact id
 | head h1 _ ih => exact fun hj => ih (hS _ _ hj h1)
def Rep (f : List Bool → List Bool) (R : Nat → Nat → Prop) (N : Nat) : Prop := ∀ L, L.length = N → (f L).length = N ∧ ∀ k, At (f L) k ↔ ∃ j, At L j ∧ R j k
theorem loop_at {f : List Bool → List Bool} {R : Nat → Nat → Prop} {N : Nat} (hf : Rep f R N) : ∀ (n : Nat) (out : List Bool), out.length = N → falses out < n → (loopF f n out).length = N ∧ ∀ k, At (loopF f n out) k ↔ ∃ j, At out j ∧ Star R j k
 | 0, _, _, h => by omega
 | n + 1, out, hl, h => by
  obtain ⟨fl, fa⟩ := hf out hl
  have hlf : (f out).length = out.length := by rw [fl, hl]
  have hj : (joinB out (f out)).length = N := by rw [join_len hlf, hl]
  unfold loopF
  cases hm : moreB out (f out) with
  | true =>
   rw [if_pos rfl]
   have h1 := join_fewer out (f out) hm
   obtain ⟨g1, g2⟩ := loop_at hf n (joinB out (f out)) hj (by omega)
   refine ⟨g1, fun k => ?_⟩
   rw [g2]
   constructor
   ·rintro ⟨j, h3, h4⟩
    rcases (at_join hlf j).1 h3 with h5 | h5
    ·exact ⟨j, h5, h4⟩
    ·obtain ⟨i, h6, h7⟩ := (fa j).1 h5
     exact ⟨i, h6, .head h7 h4⟩
   ·rintro ⟨j, h3, h4⟩
    exact ⟨j, (at_join hlf j).2 (.inl h3), h4⟩
  | false =>
   rw [if_neg (by decide)]
   refine ⟨hj, fun k => ?_⟩
   rw [join_same _ _ hlf hm]
   constructor
   ·exact fun h3 => ⟨k, h3, .refl _⟩
   ·rintro ⟨j, h3, h4⟩
    exact star_in (S := At out) (fun i m hi hr => more_at hlf hm m ((fa m).2 ⟨i, hi, hr⟩)) h4 h3
def loopN (f : List Bool → List Bool) : Nat → List Bool → List Bool → List Bool
 | 0, out, _ => out
 | n + 1, out, now => if moreB out (f now) = true then loopN f n (joinB out (f now)) (newB out (f now)) else joinB out (f now)
theorem loopN_at {f : List Bool → List Bool} {R : Nat → Nat → Prop} {N : Nat} (hf : Rep f R N) : ∀ (n : Nat) (out now : List Bool) (P : Nat → Prop), out.length = N → now.length = N → falses out < n → (∀ j k, P j → R j k → At out k) → (∀ j, At out j → P j ∨ At now j) → (loopN f n out now).length = N ∧ ∀ k, At (loopN f n out now) k ↔ At out k ∨ ∃ j, At now j ∧ Plus R j k
 | 0, _, _, _, _, _, h, _, _ => by omega
 | n + 1, out, now, P, hl, hnl, h, h1, h2 => by
  obtain ⟨fl, fa⟩ := hf now hnl
  have hlf : (f now).length = out.length := by rw [fl, hl]
  have hj : (joinB out (f now)).length = N := by rw [join_len hlf, hl]
  have hnw : (newB out (f now)).length = N := by rw [new_len hlf, hl]
  unfold loopN
  cases hm : moreB out (f now) with
  | true =>
   rw [if_pos rfl]
   have h3 := join_fewer out (f now) hm
   have p1 : ∀ j k, (P j ∨ At now j) → R j k → At (joinB out (f now)) k := fun j k hp hr => (at_join hlf k).2 (hp.elim (fun hp => .inl (h1 j k hp hr)) (fun hp => .inr ((fa k).2 ⟨j, hp, hr⟩)))
   have p2 : ∀ j, At (joinB out (f now)) j → (P j ∨ At now j) ∨ At (newB out (f now)) j := fun j hj2 => by
    by_cases ho : At out j
    ·exact .inl (h2 j ho)
    ·exact .inr ((at_new hlf j).2 ⟨((at_join hlf j).1 hj2).resolve_left ho, ho⟩)
   obtain ⟨g1, g2⟩ := loopN_at hf n (joinB out (f now)) (newB out (f now)) (fun j => P j ∨ At now j) hj hnw (by omega) p1 p2
   refine ⟨g1, fun k => ?_⟩
   rw [g2]
   constructor
   ·rintro (h4 | ⟨j, h4, m, h5, h6⟩)
    ·rcases (at_join hlf k).1 h4 with h5 | h5
     ·exact .inl h5
     ·obtain ⟨i, h6, h7⟩ := (fa k).1 h5
      exact .inr ⟨i, h6, k, h7, .refl _⟩
    ·obtain ⟨i, h7, h8⟩ := (fa j).1 ((at_new hlf j).1 h4).1
     exact .inr ⟨i, h7, j, h8, .head h5 h6⟩
   ·have key : ∀ m, Star R m k → At (joinB out (f now)) m → At (joinB out (f now)) k ∨ ∃ j, At (newB out (f now)) j ∧ Plus R j k := by
     intro m hs
     induction hs with
     | refl => exact .inl
     | head e1 e2 ih =>
      intro hm2
      rcases p2 _ hm2 with hp | hp
      ·exact ih (p1 _ _ hp e1)
      ·exact .inr ⟨_, hp, _, e1, e2⟩
    rintro (h4 | ⟨j, h4, m, h5, h6⟩)
    ·exact .inl ((at_join hlf k).2 (.inl h4))
    ·exact key m h6 ((at_join hlf m).2 (.inr ((fa m).2 ⟨j, h4, h5⟩)))
  | false =>
   rw [if_neg (by decide)]
   refine ⟨hj, fun k => ?_⟩
   rw [join_same _ _ hlf hm]
   constructor
   ·exact .inl
   ·rintro (h4 | ⟨j, h4, m, h5, h6⟩)
    ·exact h4
    ·refine star_in (S := At out) (fun i m hi hr => ?_) h6 (more_at hlf hm m ((fa m).2 ⟨j, h4, h5⟩))
     rcases h2 i hi with hp | hp
     ·exact h1 i m hp hr
     ·exact more_at hlf hm m ((fa m).2 ⟨i, hp, hr⟩)
def noneB (fr : List Bool) : List Bool := fr.map fun _ => false
theorem at_none (fr : List Bool) (k : Nat) : ¬ At (noneB fr) k := by
 unfold At noneB
 rw [List.getElem?_map]
 cases fr[k]? <;> simp
theorem none_len (fr : List Bool) : (noneB fr).length = fr.length := List.length_map _
def repN (f : List Bool → List Bool) (sign : Int) (fr : List Bool) : List Bool :=
 if sign = 63 then joinB fr (f fr) else loopN f (fr.length + 1) (if sign = 43 then noneB fr else fr) fr
theorem rep_same {f : List Bool → List Bool} {R : Nat → Nat → Prop} {N : Nat} (hf : Rep f R N) (sign : Int) {fr : List Bool} (hl : fr.length = N) : oftenF f sign fr = repN f sign fr := by
 obtain ⟨fl, fa⟩ := hf fr hl
 have hlf : (f fr).length = fr.length := by rw [fl, hl]
 unfold oftenF repN
 by_cases h63 : sign = 63
 ·rw [if_pos h63, if_pos h63]
  unfold onceF
  rw [if_pos (by omega)]
  refine at_ext (by rw [join_len hlf.symm, join_len hlf, hlf]) (fun k => ?_)
  rw [at_join hlf.symm, at_join hlf]
  exact or_comm
 ·rw [if_neg h63, if_neg h63]
  unfold onceF
  by_cases h43 : sign = 43
  ·rw [if_neg (by simpa using h43), if_pos h43]
   obtain ⟨a1, a2⟩ := loop_at hf (fr.length + 1) (f fr) fl (by have := falses_le (f fr); omega)
   obtain ⟨b1, b2⟩ := loopN_at hf (fr.length + 1) (noneB fr) fr (fun _ => False) (by rw [none_len, hl]) hl (by have := falses_le (noneB fr); rw [none_len] at this; omega) (fun _ _ h => h.elim) (fun j h => (at_none fr j h).elim)
   refine at_ext (by rw [a1, b1]) (fun k => ?_)
   rw [a2, b2]
   constructor
   ·rintro ⟨j, h1, h2⟩
    obtain ⟨i, h3, h4⟩ := (fa j).1 h1
    exact .inr ⟨i, h3, j, h4, h2⟩
   ·rintro (h1 | ⟨j, h1, m, h2, h3⟩)
    ·exact (at_none fr k h1).elim
    ·exact ⟨m, (fa m).2 ⟨j, h1, h2⟩, h3⟩
  ·rw [if_pos h43, if_neg h43]
   have hj : (joinB (f fr) fr).length = N := by rw [join_len hlf.symm, fl]
   obtain ⟨a1, a2⟩ := loop_at hf (fr.length + 1) (joinB (f fr) fr) hj (by have := falses_le (joinB (f fr) fr); omega)
   obtain ⟨b1, b2⟩ := loopN_at hf (fr.length + 1) fr fr (fun _ => False) hl hl (by have := falses_le fr; omega) (fun _ _ h => h.elim) (fun j h => .inr h)
   refine at_ext (by rw [a1, b1]) (fun k => ?_)
   rw [a2, b2]
   constructor
   ·rintro ⟨j, h1, h2⟩
    rcases (at_join hlf.symm j).1 h1 with h3 | h3
    ·obtain ⟨i, h4, h5⟩ := (fa j).1 h3
     exact .inr ⟨i, h4, j, h5, h2⟩
    ·rcases star_or.1 h2 with rfl | h4
     ·exact .inl h3
     ·exact .inr ⟨j, h3, h4⟩
   ·rintro (h1 | ⟨j, h1, h2⟩)
    ·exact ⟨k, (at_join hlf.symm k).2 (.inr h1), .refl _⟩
    ·exact ⟨j, (at_join hlf.symm j).2 (.inr h1), star_or.2 (.inr h2)⟩
end Go.Proofs.YtlhmdgaohonpbaaGreatDoor

namespace Go.Proofs.YtlhmdgaohonpbaaGreatDoor
open Go.RowKit
inductive Nd where
 | set (l : List Sp) (but : Bool)
 | none
 | cat (a b : Nd)
 | alt (a b : Nd)
 | rep (sign : Int) (a : Nd)
def endsN : Nd → List Int → List Bool → List Bool
 | .set l b, s, fr => oneF l b s fr
 | .none, _, fr => fr
 | .cat a b, s, fr => endsN b s (endsN a s fr)
 | .alt a b, s, fr => joinB (endsN a s fr) (endsN b s fr)
 | .rep g a, s, fr => repN (endsN a s) g fr
theorem one_rep (set : List Sp) (but : Bool) (s : List Int) : Rep (oneF set but s) (fun j k => k = j + 1 ∧ ∃ c, s[j]? = some c ∧ hasF set but c = true) (s.length + 1) := fun L hL => by
 refine ⟨by rw [one_len hL, hL], fun k => ?_⟩
 unfold oneF At
 cases k with
 | zero =>
  simp only [List.getElem?_cons_zero]
  constructor
  ·intro h; cases h
  ·rintro ⟨j, _, h, _⟩; omega
 | succ k =>
  rw [List.getElem?_cons_succ, List.getElem?_zipWith]
  constructor
  ·intro h
   cases h1 : L[k]? with
   | none => rw [h1] at h; simp at h
   | some a =>
    cases h2 : s[k]? with
    | none => rw [h1, h2] at h; simp at h
    | some c =>
     rw [h1, h2] at h
     simp at h
     exact ⟨k, by rw [h1, h.1], rfl, c, h2, h.2⟩
  ·rintro ⟨j, h1, h2, c, h3, h4⟩
   have hjk : j = k := by omega
   subst hjk
   rw [h1, h3]
   simp [h4]
theorem repN_rep {f : List Bool → List Bool} {R : Nat → Nat → Prop} {N : Nat} (hf : Rep f R N) (sign : Int) : ∃ R', Rep (repN f sign) R' N := by
 by_cases h63 : sign = 63
 ·refine ⟨fun j k => j = k ∨ R j k, fun L hL => ?_⟩
  obtain ⟨fl, fa⟩ := hf L hL
  have hlf : (f L).length = L.length := by rw [fl, hL]
  unfold repN
  rw [if_pos h63]
  refine ⟨by rw [join_len hlf, hL], fun k => ?_⟩
  rw [at_join hlf, fa]
  constructor
  ·rintro (h | ⟨j, h1, h2⟩)
   ·exact ⟨k, h, .inl rfl⟩
   ·exact ⟨j, h1, .inr h2⟩
  ·rintro ⟨j, h1, rfl | h2⟩
   ·exact .inl h1
   ·exact .inr ⟨j, h1, h2⟩
 ·by_cases h43 : sign = 43
  ·refine ⟨Plus R, fun L hL => ?_⟩
   unfold repN
   rw [if_neg h63, if_pos h43]
   obtain ⟨b1, b2⟩ := loopN_at hf (L.length + 1) (noneB L) L (fun _ => False) (by rw [none_len, hL]) hL (by have := falses_le (noneB L); rw [none_len] at this; omega) (fun _ _ h => h.elim) (fun j h => (at_none L j h).elim)
   refine ⟨b1, fun k => ?_⟩
   rw [b2]
   exact ⟨fun h => h.resolve_left (at_none L k), .inr⟩
  ·refine ⟨Star R, fun L hL => ?_⟩
   unfold repN
   rw [if_neg h63, if_neg h43]
   obtain ⟨b1, b2⟩ := loopN_at hf (L.length + 1) L L (fun _ => False) hL hL (by have := falses_le L; omega) (fun _ _ h => h.elim) (fun j h => .inr h)
   refine ⟨b1, fun k => ?_⟩
   rw [b2]
   constructor
   ·rintro (h | ⟨j, h1, h2⟩)
    ·exact ⟨k, h, .refl _⟩
    ·exact ⟨j, h1, star_or.2 (.inr h2)⟩
   ·rintro ⟨j, h1, h2⟩
    rcases star_or.1 h2 with rfl | h3
    ·exact .inl h1
    ·exact .inr ⟨j, h1, h3⟩
theorem endsN_rep : ∀ (n : Nd) (s : List Int), ∃ R, Rep (endsN n s) R (s.length + 1)
 | .set l b, s => ⟨_, one_rep l b s⟩
 | .none, s => ⟨fun j k => j = k, fun L hL => ⟨hL, fun k => ⟨fun h => ⟨k, h, rfl⟩, fun ⟨j, h, e⟩ => e ▸ h⟩⟩⟩
 | .cat a b, s => by
  obtain ⟨R1, h1⟩ := endsN_rep a s
  obtain ⟨R2, h2⟩ := endsN_rep b s
  refine ⟨fun j k => ∃ m, R1 j m ∧ R2 m k, fun L hL => ?_⟩
  obtain ⟨a1, a2⟩ := h1 L hL
  obtain ⟨b1, b2⟩ := h2 (endsN a s L) a1
  refine ⟨b1, fun k => ?_⟩
  show At (endsN b s (endsN a s L)) k ↔ _
  rw [b2]
  constructor
  ·rintro ⟨m, h3, h4⟩
   obtain ⟨j, h5, h6⟩ := (a2 m).1 h3
   exact ⟨j, h5, m, h6, h4⟩
  ·rintro ⟨j, h5, m, h6, h4⟩
   exact ⟨m, (a2 m).2 ⟨j, h5, h6⟩, h4⟩
 | .alt a b, s => by
  obtain ⟨R1, h1⟩ := endsN_rep a s
  obtain ⟨R2, h2⟩ := endsN_rep b s
  refine ⟨fun j k => R1 j k ∨ R2 j k, fun L hL => ?_⟩
  obtain ⟨a1, a2⟩ := h1 L hL
  obtain ⟨b1, b2⟩ := h2 L hL
  have hl : (endsN b s L).length = (endsN a s L).length := by rw [a1, b1]
  refine ⟨by show (joinB _ _).length = _; rw [join_len hl, a1], fun k => ?_⟩
  show At (joinB _ _) k ↔ _
  rw [at_join hl, a2, b2]
  constructor
  ·rintro (⟨j, h3, h4⟩ | ⟨j, h3, h4⟩)
   ·exact ⟨j, h3, .inl h4⟩
   ·exact ⟨j, h3, .inr h4⟩
  ·rintro ⟨j, h3, h4 | h4⟩
   ·exact .inl ⟨j, h3, h4⟩
   ·exact .inr ⟨j, h3, h4⟩
 | .rep g a, s => by
  obtain ⟨R1, h1⟩ := endsN_rep a s
  exact repN_rep h1 g
theorem endsN_len (n : Nd) (s : List Int) {fr : List Bool} (h : fr.length = s.length + 1) : (endsN n s fr).length = s.length + 1 := by
 obtain ⟨R, hR⟩ := endsN_rep n s
 exact (hR fr h).1
theorem loop_congr {f g : List Bool → List Bool} {N : Nat} (hg : ∀ L, L.length = N → (g L).length = N) (h : ∀ L, L.length = N → f L = g L) : ∀ (n : Nat) (out : List Bool), out.length = N → loopF f n out = loopF g n out
 | 0, _, _ => rfl
 | n + 1, out, hl => by
  have h1 := h out hl
  have hlf : (g out).length = out.length := by rw [hg out hl, hl]
  unfold loopF
  rw [h1]
  split
  ·exact loop_congr hg h n _ (by rw [join_len hlf, hl])
  ·rfl
theorem often_congr {f g : List Bool → List Bool} {N : Nat} (hg : ∀ L, L.length = N → (g L).length = N) (h : ∀ L, L.length = N → f L = g L) (sign : Int) {fr : List Bool} (hl : fr.length = N) : oftenF f sign fr = oftenF g sign fr := by
 have h1 : onceF f sign fr = onceF g sign fr := by unfold onceF; rw [h fr hl]
 unfold oftenF
 rw [h1]
 split
 ·rfl
 ·exact loop_congr hg h _ _ (once_len hg hl)
mutual
inductive Sim : Nat → Part → Nd → Prop
 | one {h : Nat} {l l' : List Sp} {b pl : Bool} {ps : List Part} {sg : Int} : (∀ c, hasF l b c = hasF l' b c) → Sim (h + 1) (.mk 0 l b pl ps sg) (.set l' b)
 | many {h : Nat} {l : List Sp} {b pl : Bool} {ps : List Part} {sg : Int} {n : Nd} : SimC h ps n → Sim (h + 1) (.mk 1 l b pl ps sg) n
 | alike {h : Nat} {l : List Sp} {b pl : Bool} {ps : List Part} {sg : Int} {n : Nd} : SimA h ps n → Sim (h + 1) (.mk 2 l b pl ps sg) n
 | again {h : Nat} {l : List Sp} {b pl : Bool} {x : Part} {sg : Int} {a : Nd} : Sim h x a → Sim (h + 1) (.mk 3 l b pl [x] sg) (.rep sg a)
inductive SimC : Nat → List Part → Nd → Prop
 | nil {h : Nat} : SimC h [] .none
 | snoc {h : Nat} {ps : List Part} {n a : Nd} {x : Part} : SimC h ps n → Sim h x a → SimC h (ps ++ [x]) (.cat n a)
inductive SimA : Nat → List Part → Nd → Prop
 | one {h : Nat} {p : Part} {n : Nd} : Sim h p n → SimA h [p] n
 | snoc {h : Nat} {ps : List Part} {n b : Nd} {p : Part} : SimA h ps n → Sim h p b → SimA h (ps ++ [p]) (.alt n b)
end
mutual
theorem sim_ends : ∀ {h : Nat} {p : Part} {n : Nd}, Sim h p n → ∀ (f : Nat), h ≤ f → ∀ (s : List Int) (fr : List Bool), fr.length = s.length + 1 → endsF f p s fr = endsN n s fr
 | _, _, _, .one hs, 0, hf, _, _, _ => by omega
 | _, _, _, .one hs, f + 1, hf, s, fr, _ => by
  unfold endsF endsN
  rw [if_pos rfl]
  unfold oneF
  congr 2
  funext a c
  rw [hs]
 | _, _, _, .many hs, 0, hf, _, _, _ => by omega
 | _, _, _, .many hs, f + 1, hf, s, fr, hl => by
  unfold endsF
  rw [if_neg (by decide), if_pos rfl]
  exact simC_ends hs f (by omega) s fr hl
 | _, _, _, .alike hs, 0, hf, _, _, _ => by omega
 | _, _, _, .alike hs, f + 1, hf, s, fr, hl => by
  unfold endsF
  rw [if_neg (by decide), if_neg (by decide), if_pos rfl]
  exact simA_ends hs f (by omega) s fr hl
 | _, _, _, .again hs, 0, hf, _, _, _ => by omega
 | _, _, _, .again (x := x) (sg := sg) (a := a) hs, f + 1, hf, s, fr, hl => by
  have h1 : ∀ L, L.length = s.length + 1 → endsF f x s L = endsN a s L := fun L hL => sim_ends hs f (by omega) s L hL
  unfold endsF
  rw [if_neg (by decide), if_neg (by decide), if_neg (by decide)]
  show oftenF (endsF f x s) sg fr = repN (endsN a s) sg fr
  rw [often_congr (fun L hL => endsN_len a s hL) h1 sg hl]
  obtain ⟨R, hR⟩ := endsN_rep a s
  exact rep_same hR sg hl
theorem simC_ends : ∀ {h : Nat} {ps : List Part} {n : Nd}, SimC h ps n → ∀ (f : Nat), h ≤ f → ∀ (s : List Int) (fr : List Bool), fr.length = s.length + 1 → ps.foldl (fun fr x => endsF f x s fr) fr = endsN n s fr
 | _, _, _, .nil, f, _, s, fr, _ => rfl
 | _, _, _, .snoc (n := n) h1 h2, f, hf, s, fr, hl => by
  rw [List.foldl_append, simC_ends h1 f hf s fr hl]
  exact sim_ends h2 f hf s _ (endsN_len n s hl)
theorem simA_ends : ∀ {h : Nat} {ps : List Part} {n : Nd}, SimA h ps n → ∀ (f : Nat), h ≤ f → ∀ (s : List Int) (fr : List Bool), fr.length = s.length + 1 → ps.foldl (fun out x => joinB out (endsF f x s fr)) (fr.map fun _ => false) = endsN n s fr
 | _, _, _, .one (n := n) h1, f, hf, s, fr, hl => by
  rw [List.foldl_cons, List.foldl_nil, sim_ends h1 f hf s fr hl]
  have hn := endsN_len n s hl
  refine at_ext (by rw [join_len (by rw [hn, List.length_map, hl]), List.length_map, hl, hn]) (fun k => ?_)
  rw [at_join (by rw [hn, List.length_map, hl])]
  exact ⟨fun h => h.resolve_left (at_none fr k), .inr⟩
 | _, _, _, .snoc h1 h2, f, hf, s, fr, hl => by
  rw [List.foldl_append, simA_ends h1 f hf s fr hl]
  show joinB _ (endsF f _ s fr) = _
  rw [sim_ends h2 f hf s fr hl]
  rfl
end
end Go.Proofs.YtlhmdgaohonpbaaGreatDoor

namespace Go.Proofs.YtlhmdgaohonpbaaGreatDoor
open Go.RowKit
def SS (l l' : List Sp) : Prop := ∀ c, l.any (inS c) = l'.any (inS c)
theorem on_okE {α β : Type} (a : α) (r : Rs) (f : α → Rs → Out β) : (Out.ok a r).on f = f a r := rfl
theorem SS.refl (l : List Sp) : SS l l := fun _ => rfl
theorem SS.app {a b a' b' : List Sp} (h : SS a b) (h' : SS a' b') : SS (a ++ a') (b ++ b') := fun c => by rw [List.any_append, List.any_append, h c, h' c]
theorem SS.has {l l' : List Sp} (h : SS l' l) (b : Bool) (c : Int) : hasF l b c = hasF l' b c := by unfold hasF; rw [h c]
theorem group_nil (c : Int) : groupR c = [] ↔ shortsF c = [] := by
 unfold groupR shortsF
 by_cases h1 : c = 100
 ·rw [if_pos h1, if_pos h1]
 rw [if_neg h1, if_neg h1]
 by_cases h2 : c = 119
 ·rw [if_pos h2, if_pos h2]
 rw [if_neg h2, if_neg h2]
 by_cases h3 : c = 115
 ·rw [if_pos h3, if_pos h3]
  exact Iff.intro (fun e => by cases e) (fun e => by cases e)
 rw [if_neg h3, if_neg h3]
theorem group_same (c : Int) : SS (groupR c) (shortsF c) := by
 intro x
 unfold groupR shortsF
 by_cases h1 : c = 100
 ·rw [if_pos h1, if_pos h1]
 rw [if_neg h1, if_neg h1]
 by_cases h2 : c = 119
 ·rw [if_pos h2, if_pos h2]
 rw [if_neg h2, if_neg h2]
 by_cases h3 : c = 115
 ·rw [if_pos h3, if_pos h3]
  have h4 : inS x ⟨9, 10⟩ = (inS x ⟨9, 9⟩ || inS x ⟨10, 10⟩) := by
   unfold inS
   rw [Bool.eq_iff_iff]
   simp only [Bool.and_eq_true, Bool.or_eq_true, decide_eq_true_eq]
   omega
  simp only [List.any_cons, List.any_nil, h4, Bool.or_false]
 rw [if_neg h3, if_neg h3]
theorem group_wide {c : Int} (h : groupR c ≠ []) : wideR (groupR c) = true := by
 rcases group_now h with rfl | rfl | rfl <;> decide
theorem esc_group {c : Int} (h : groupR c ≠ []) : escOk c = false := by
 rcases group_now h with rfl | rfl | rfl <;> decide
structure EscG (s : ByteArray) (cs : List Int) (D : Int) (x : List Sp × St) (y : List Sp × Bool) (r' : Rs) : Prop where
 at_ : Rl s cs D x.2 r'
 same : SS x.1 y.1
 ne : x.1 ≠ []
 wide : wideR x.1 = !y.2
 one : y.2 = true → ∃ c, x.1 = [⟨c, c⟩] ∧ y.1 = [⟨c, c⟩]
section
variable {s : ByteArray} {cs : List Int} {D : Int} {st : St} {r : Rs}
theorem esc_bad (hr : rnF cs (stepI st) < 0) : escR cs st = ([], failS 8 (stepI st)) := by
 unfold escR
 have h1 : escOk (rnF cs (stepI st)) = false := by
  unfold escOk
  rw [decide_eq_false (by omega)]; rfl
 have h2 : groupR (rnF cs (stepI st)) = [] := by
  unfold groupR
  rw [if_neg (by omega), if_neg (by omega), if_neg (by omega)]
 rw [if_neg (by rw [h1]; decide), if_pos h2]
theorem esc_ag (h : Rl s cs D (stepI st) r) : Agree (escapeF s r) (escR cs st).2 (EscG s cs D (escR cs st)) := by
 unfold escapeF
 rcases peek_three h with ⟨hp, hr, -⟩ | ⟨hp, hr, -⟩ | ⟨h0, hp, hR, -⟩
 ·rw [hp, esc_bad (by omega)]
  exact ⟨fail_ag h 8, by decide⟩
 ·rw [hp, esc_bad (by omega)]
  exact ⟨fail_ag h 8, by decide⟩
 ·rw [hp, on_okE]
  unfold escR
  generalize rnF cs (stepI st) = c at *
  by_cases hs : groupR c = []
  ·rw [if_neg (fun g => g ((group_nil c).1 hs))]
   by_cases hk : escOk c = true
   ·have hk2 := hk
    unfold escOk at hk2
    simp only [Bool.and_eq_true, Bool.or_eq_true, decide_eq_true_eq] at hk2
    rw [if_neg (fun e => e.elim (fun g => by omega) (fun g => by obtain ⟨g1, g2, g3⟩ := g; rw [g1] at hk2; simp at hk2; omega)), if_pos hk]
    exact ⟨hR, SS.refl _, by simp, by simp [wideR], fun _ => ⟨c, rfl, rfl⟩⟩
   ·have hk2 := hk
    unfold escOk at hk2
    simp only [Bool.and_eq_true, Bool.or_eq_true, decide_eq_true_eq] at hk2
    rw [if_pos (.inr ⟨by cases hz : specialF c with | true => exact (hk2 ⟨h0, .inl (.inl hz)⟩).elim | false => rfl, fun e => hk2 ⟨h0, .inl (.inr e)⟩, fun e => hk2 ⟨h0, .inr e⟩⟩), if_neg hk, if_pos hs]
    exact ⟨fail_ag h 8, by decide⟩
  ·rw [if_pos (fun g => hs ((group_nil c).2 g)), if_neg (by rw [esc_group hs]; decide), if_neg hs]
   exact ⟨hR, group_same c, hs, group_wide hs, fun e => by cases e⟩
structure SinG (s : ByteArray) (cs : List Int) (D : Int) (x : (Int × List Sp) × St) (y : List Sp × Bool) (r' : Rs) : Prop where
 at_ : Rl s cs D x.2 r'
 one : y.2 = true → x.1.2 = [] ∧ y.1 = [⟨x.1.1, x.1.1⟩]
 many : y.2 = false → x.1.2 ≠ [] ∧ SS x.1.2 y.1
theorem single_bad (hr : noSingle (rnF cs st) = true) : singleR cs st = ((0, []), failS 8 st) := by
 unfold singleR
 have h1 : ¬ rnF cs st = 92 := by intro e; rw [e] at hr; cases hr
 rw [if_neg h1, if_pos hr]
theorem no_neg {c : Int} (h : c < 0) : noSingle c = true := by unfold noSingle; rw [decide_eq_true h]; rfl
theorem single_ag (h : Rl s cs D st r) : Agree (memberF s r) (singleR cs st).2 (SinG s cs D (singleR cs st)) := by
 unfold memberF
 rcases peek_three h with ⟨hp, hr, -⟩ | ⟨hp, hr, -⟩ | ⟨h0, hp, hR, -⟩
 ·rw [hp, on_okE, single_bad (no_neg (by omega))]
  rw [if_pos (.inl rfl)]
  exact ⟨fail_ag h 8, by decide⟩
 ·rw [hp, single_bad (no_neg (by omega))]
  exact ⟨fail_ag h 8, by decide⟩
 ·rw [hp, on_okE]
  by_cases hn : noSingle (rnF cs st) = true
  ·have hn2 := hn
   unfold noSingle at hn2
   simp only [Bool.or_eq_true, decide_eq_true_eq] at hn2
   rw [if_pos (by omega), single_bad hn]
   exact ⟨fail_ag h 8, by decide⟩
  ·have hn2 := hn
   unfold noSingle at hn2
   simp only [Bool.or_eq_true, decide_eq_true_eq, not_or] at hn2
   rw [if_neg (by omega)]
   by_cases h92 : rnF cs st = 92
   ·rw [if_pos h92]
    have hE := esc_ag (s := s) (cs := cs) (D := D) (st := st) hR
    have hs2 : (singleR cs st).2 = (escR cs st).2 := by
     unfold singleR; rw [if_pos h92]; split <;> rfl
    rw [hs2]
    refine ag_mono hE (fun y r' g => ⟨by rw [hs2]; exact g.at_, fun hy => ?_, fun hy => ?_⟩)
    ·obtain ⟨c, e1, e2⟩ := g.one hy
     have : singleR cs st = ((loOf (escR cs st).1, []), (escR cs st).2) := by
      unfold singleR; rw [if_pos h92, if_neg]
      rintro (e | e)
      ·exact e g.at_.e
      ·rw [g.wide, hy] at e; cases e
     rw [this, e1, e2]
     exact ⟨rfl, rfl⟩
    ·have : singleR cs st = ((0, (escR cs st).1), (escR cs st).2) := by
      unfold singleR; rw [if_pos h92, if_pos (.inr (by rw [g.wide, hy]; rfl))]
     rw [this]
     exact ⟨g.ne, g.same⟩
   ·rw [if_neg h92]
    have : singleR cs st = ((rnF cs st, []), stepI st) := by
     unfold singleR; rw [if_neg h92, if_neg hn]
    rw [this]
    exact ⟨hR, fun _ => ⟨rfl, rfl⟩, fun e => by cases e⟩
theorem last_ag (h : Rl s cs D st r) (lo : Int) : Agree (upperF s lo r) (lastR cs lo st).2 (fun hi r' => Rl s cs D (lastR cs lo st).2 r' ∧ (lastR cs lo st).1 = hi) := by
 have key : ¬ (rnF cs st = 92 ∧ 125 < lo) → ∀ a : Int, Agree ((memberF s r).on fun x r' => if x.2 = false ∨ loOf x.1 < lo then .bad a 8 else .ok (loOf x.1) r') (lastR cs lo st).2 (fun hi r' => Rl s cs D (lastR cs lo st).2 r' ∧ (lastR cs lo st).1 = hi) := by
  intro hn a
  have hl : lastR cs lo st = if (singleR cs st).2.e = 0 ∧ ((singleR cs st).1.2 ≠ [] ∨ (singleR cs st).1.1 < lo) then ((singleR cs st).1.1, failS 8 { (singleR cs st).2 with i := if rnF cs st = 92 then st.i + 1 else st.i }) else ((singleR cs st).1.1, (singleR cs st).2) := by
   unfold lastR; rw [if_neg hn]
  refine on_ag (single_ag h) (fun y r' g => ?_) (fun he => ?_)
  ·by_cases hb : y.2 = false ∨ loOf y.1 < lo
   ·rw [if_pos hb]
    have hc : (singleR cs st).2.e = 0 ∧ ((singleR cs st).1.2 ≠ [] ∨ (singleR cs st).1.1 < lo) := by
     refine ⟨g.at_.e, ?_⟩
     cases hy : y.2 with
     | false => exact .inl (g.many hy).1
     | true =>
      have h2 := (g.one hy).2
      rw [h2] at hb
      rcases hb with hb | hb
      ·rw [hy] at hb; cases hb
      ·exact .inr hb
    rw [hl, if_pos hc]
    refine ⟨?_, by decide⟩
    show (failS 8 _).e = 8
    unfold failS
    rw [if_pos g.at_.e]
   ·rw [if_neg hb]
    have hy : y.2 = true := by cases hy : y.2 with | true => rfl | false => exact (hb (.inl hy)).elim
    obtain ⟨h1, h2⟩ := g.one hy
    have hc : ¬ ((singleR cs st).2.e = 0 ∧ ((singleR cs st).1.2 ≠ [] ∨ (singleR cs st).1.1 < lo)) := by
     rintro ⟨-, e | e⟩
     ·exact e h1
     ·exact hb (.inr (by rw [h2]; exact e))
    rw [hl, if_neg hc, h2]
    exact ⟨g.at_, rfl⟩
  ·rw [hl, if_neg (fun e => he e.1)]
 unfold upperF
 rcases peek_three h with ⟨hp, hr, -⟩ | ⟨hp, hr, -⟩ | ⟨h0, hp, hR, -⟩
 ·rw [hp, on_okE]
  rw [if_neg (by omega)]
  exact key (by omega) _
 ·rw [hp]
  have hl : lastR cs lo st = (0, failS 8 st) := by
   unfold lastR
   rw [if_neg (by omega), single_bad (no_neg (by omega)), if_neg]
   intro e
   exact absurd (e.1 : (failS 8 st).e = 0) (by rw [fail_ag h 8]; decide)
  rw [hl]
  exact ⟨fail_ag h 8, by decide⟩
 ·rw [hp, on_okE]
  by_cases hc : rnF cs st = 92 ∧ 125 < lo
  ·rw [if_pos hc]
   have hl : lastR cs lo st = (0, failS 8 st) := by unfold lastR; rw [if_pos hc]
   rw [hl]
   exact ⟨fail_ag h 8, by decide⟩
  ·rw [if_neg hc]
   exact key hc _
theorem item_off (he : (singleR cs st).2.e ≠ 0) : (itemR cs st).2 = (singleR cs st).2 := by
 unfold itemR
 simp only
 split
 ·rfl
 ·rw [if_neg (fun e => he e.1)]
theorem item_ag (h : Rl s cs D st r) : Agree ((memberF s r).on fun x r => rangeF s x r) (itemR cs st).2 (fun l r' => Rl s cs D (itemR cs st).2 r' ∧ SS (itemR cs st).1 l ∧ (itemR cs st).1 ≠ []) ∨ (∃ a, ((memberF s r).on fun x r => rangeF s x r) = .bad a 8 ∧ (itemR cs st).2.e = 0 ∧ rnF cs (itemR cs st).2 = -1) := by
 have hS := single_ag h
 cases hm : memberF s r with
 | bad a e =>
  rw [hm] at hS
  have hS2 : (singleR cs st).2.e = e ∧ e ≠ 0 := hS
  refine .inl ⟨?_, hS2.2⟩
  rw [item_off (by rw [hS2.1]; exact hS2.2)]
  exact hS2.1
 | ok y r1 =>
  rw [hm] at hS
  have g : SinG s cs D (singleR cs st) y r1 := hS
  rw [on_okE]
  unfold rangeF
  cases hy : y.2 with
  | false =>
   obtain ⟨h1, h2⟩ := g.many hy
   rw [if_neg (by decide)]
   have hi : itemR cs st = ((singleR cs st).1.2, (singleR cs st).2) := by
    unfold itemR; simp only; rw [if_pos h1]
   rw [hi]
   exact .inl ⟨g.at_, h2, h1⟩
  | true =>
   obtain ⟨h1, h2⟩ := g.one hy
   rw [if_pos rfl]
   have hi : itemR cs st = if (singleR cs st).2.e = 0 ∧ rnF cs (singleR cs st).2 = 45 then ([⟨(singleR cs st).1.1, (lastR cs (singleR cs st).1.1 (stepI (singleR cs st).2)).1⟩], (lastR cs (singleR cs st).1.1 (stepI (singleR cs st).2)).2) else ([⟨(singleR cs st).1.1, (singleR cs st).1.1⟩], (singleR cs st).2) := by
    unfold itemR; simp only; rw [if_neg (fun e => e h1)]
   rcases peek_three g.at_ with ⟨hp, hr, -⟩ | ⟨hp, hr, -⟩ | ⟨h0, hp, hR, -⟩
   ·rw [hp, on_okE, hi, if_neg (by omega : ¬ ((singleR cs st).2.e = 0 ∧ rnF cs (singleR cs st).2 = 45)), h2]
    rw [if_neg (by omega)]
    exact .inl ⟨g.at_, SS.refl _, by simp⟩
   ·rw [hp, hi, if_neg (by omega)]
    exact .inr ⟨_, rfl, g.at_.e, hr⟩
   ·rw [hp, on_okE, hi, h2]
    by_cases hc : rnF cs (singleR cs st).2 = 45
    ·rw [if_pos hc, if_pos ⟨g.at_.e, hc⟩]
     rw [hc] at hR
     refine .inl (on_ag (last_ag hR (singleR cs st).1.1) (fun hi r' g2 => ?_) (fun he => rfl))
     refine ⟨g2.1, ?_, by simp⟩
     rw [g2.2]
     exact SS.refl _
    ·rw [if_neg hc, if_neg (fun e => hc e.2)]
     exact .inl ⟨g.at_, SS.refl _, by simp⟩
theorem class_pend {n : Nat} (acc : List Sp) (he : st.e = 0) (hr : rnF cs st = -1) (hn : 1 ≤ n) : (classL cs n acc st).2.e = 8 := by
 cases n with
 | zero => omega
 | succ n =>
  unfold classL
  rw [if_neg (fun e => e he), if_neg (by omega)]
  have h1 := single_bad (cs := cs) (st := st) (no_neg (by omega))
  have h2 : (failS 8 st).e = 8 := by unfold failS; rw [if_pos he]
  have h3 : (itemR cs st).2 = failS 8 st := by
   rw [item_off (by rw [h1]; show (failS 8 st).e ≠ 0; omega), h1]
  rw [(mo_classL cs n _ _).stick (by rw [h3]; omega), h3, h2]
theorem classL_ag : ∀ (n m : Nat) (first : Bool) (acc acc' : List Sp) (st : St) (r : Rs), Rl s cs D st r → SS acc acc' → (first = true ↔ acc = []) → cs.length - st.i < n → cs.length - st.i < m → Agree (classLoop s m first acc' r) (classL cs n acc st).2 (fun l r' => ∃ l0, (classL cs n acc st).1 = some l0 ∧ SS l0 l ∧ Rl s cs D (classL cs n acc st).2 (skipF 93 r'))
 | 0, _, _, _, _, _, _, _, _, _, h, _ => by omega
 | _ + 1, 0, _, _, _, _, _, _, _, _, _, h => by omega
 | n + 1, m + 1, first, acc, acc', st, r, h, hs, hf, hn, hm => by
  have common : ¬ (rnF cs st = 93 ∧ acc ≠ []) → Agree ((memberF s r).on fun x r => (rangeF s x r).on fun l r => classLoop s m false (acc' ++ l) r) (classL cs (n + 1) acc st).2 (fun l r' => ∃ l0, (classL cs (n + 1) acc st).1 = some l0 ∧ SS l0 l ∧ Rl s cs D (classL cs (n + 1) acc st).2 (skipF 93 r')) := by
   intro hc
   have hl : classL cs (n + 1) acc st = classL cs n (acc ++ (itemR cs st).1) (itemR cs st).2 := by
    show (if st.e ≠ 0 then _ else if _ then _ else _) = _
    rw [if_neg (fun e => e h.e), if_neg hc]
   rw [hl, ← on_assoc (memberF s r) (fun x r => rangeF s x r)]
   have hg := go_item h.pos.hi
   rcases item_ag h with hA | ⟨a, h1, h2, h3⟩
   ·refine on_ag hA (fun l r1 g => ?_) (mo_classL cs n _ _).stick
    have h4 := hg.fwd g.1.e
    have h5 := hg.hi
    exact classL_ag n m false _ _ _ _ g.1 (hs.app g.2.1) ⟨fun e => (by cases e), fun e => (by have := (List.append_eq_nil_iff.1 e).2; exact (g.2.2 this).elim)⟩ (by omega) (by omega)
   ·rw [h1]
    have h4 := hg.fwd h2
    have h5 := (now_lt (cs := cs) (st := (itemR cs st).2) (by omega)).2.1
    exact ⟨class_pend _ h2 h3 (by omega), by decide⟩
  unfold classLoop
  cases first with
  | true =>
   rw [if_pos rfl, on_okE, if_neg (by decide)]
   exact common (fun e => e.2 (hf.1 rfl))
  | false =>
   rw [if_neg (by decide)]
   have hacc : acc ≠ [] := fun e => by have := hf.2 e; cases this
   rcases peek_three h with ⟨hp, hr, -⟩ | ⟨hp, hr, -⟩ | ⟨h0, hp, hR, -⟩
   ·rw [hp, on_okE]
    rw [if_neg (by decide)]
    exact common (by omega)
   ·rw [hp]
    exact ⟨class_pend _ h.e hr (by omega), by decide⟩
   ·rw [hp, on_okE]
    by_cases hc : rnF cs st = 93
    ·rw [if_pos hc]
     have hl : classL cs (n + 1) acc st = (some acc, stepI st) := by
      show (if st.e ≠ 0 then _ else if _ then _ else _) = _
      rw [if_neg (fun e => e h.e), if_pos ⟨hc, hacc⟩]
     rw [hl]
     rw [hc] at hR
     exact ⟨acc, rfl, hs, hR⟩
    ·rw [if_neg hc]
     exact common (fun e => hc e.1)
end
end Go.Proofs.YtlhmdgaohonpbaaGreatDoor

namespace Go.Proofs.YtlhmdgaohonpbaaGreatDoor
open Go.RowKit
inductive TreeN (L : List NodeC) : Nat → Nd → Prop
 | set {i : Nat} {l : List Sp} {b : Bool} : L[i]? = some ⟨0, 0, 0, l, b⟩ → TreeN L i (.set l b)
 | none {i : Nat} : L[i]? = some ⟨6, 0, 0, [], false⟩ → TreeN L i .none
 | cat {i a b : Nat} {x y : Nd} : L[i]? = some ⟨1, a, b, [], false⟩ → TreeN L a x → TreeN L b y → TreeN L i (.cat x y)
 | alt {i a b : Nat} {x y : Nd} : L[i]? = some ⟨2, a, b, [], false⟩ → TreeN L a x → TreeN L b y → TreeN L i (.alt x y)
 | rep {i a : Nat} {g : Int} {x : Nd} : (g = 42 ∨ g = 43 ∨ g = 63) → L[i]? = some ⟨kindOf g, a, 0, [], false⟩ → TreeN L a x → TreeN L i (.rep g x)
theorem get_more {α : Type} {L L' : List α} {i : Nat} {x : α} (h : L[i]? = some x) : (L ++ L')[i]? = some x := by
 rw [List.getElem?_append_left (List.getElem?_eq_some_iff.1 h).1]; exact h
theorem TreeN.more {L L' : List NodeC} {i : Nat} {n : Nd} (h : TreeN L i n) : TreeN (L ++ L') i n := by
 induction h with
 | set h => exact .set (get_more h)
 | none h => exact .none (get_more h)
 | cat h _ _ i1 i2 => exact .cat (get_more h) i1 i2
 | alt h _ _ i1 i2 => exact .alt (get_more h) i1 i2
 | rep h0 h _ i1 => exact .rep h0 (get_more h) i1
theorem TreeN.mo {st st' : St} {i : Nat} {n : Nd} (h : TreeN st.L i n) (hm : Mo st st') : TreeN st'.L i n := by
 obtain ⟨x, hx⟩ := hm.grow
 rw [hx]; exact h.more
mutual
theorem sim_up : ∀ {h : Nat} {p : Part} {n : Nd}, Sim h p n → Sim (h + 1) p n
 | _, _, _, .one hs => .one hs
 | _, _, _, .many hs => .many (simC_up hs)
 | _, _, _, .alike hs => .alike (simA_up hs)
 | _, _, _, .again hs => .again (sim_up hs)
theorem simC_up : ∀ {h : Nat} {ps : List Part} {n : Nd}, SimC h ps n → SimC (h + 1) ps n
 | _, _, _, .nil => .nil
 | _, _, _, .snoc h1 h2 => .snoc (simC_up h1) (sim_up h2)
theorem simA_up : ∀ {h : Nat} {ps : List Part} {n : Nd}, SimA h ps n → SimA (h + 1) ps n
 | _, _, _, .one h1 => .one (sim_up h1)
 | _, _, _, .snoc h1 h2 => .snoc (simA_up h1) (sim_up h2)
end
def Tr (x : Int × St) (p : Part) (h : Nat) : Prop := ∃ (k : Nat) (nd : Nd), x.1 = k ∧ TreeN x.2.L k nd ∧ Sim h p nd
theorem get_new {α : Type} (L : List α) (x : α) : (L ++ [x])[L.length]? = some x := by simp
section
variable {s : ByteArray} {cs : List Int} {D : Int} {st : St} {r : Rs}
theorem Rl.add (h : Rl s cs D st r) (n : NodeC) : Rl s cs D (addN n st).2 r := ⟨h.e, h.pos, h.deep, h.depth⟩
theorem Rl.sz (h : Rl s cs D st r) : Rl s cs D st (moreSz r) := ⟨h.e, h.pos, h.deep, h.depth⟩
theorem tr_set (l : List Sp) (b : Bool) (l' : List Sp) (pl : Bool) (hs : SS l l') (h : Nat) : Tr (addN ⟨0, 0, 0, l, b⟩ st) (.mk 0 l' b pl [] 0) (h + 1) :=
 ⟨st.L.length, .set l b, rfl, .set (get_new _ _), .one (fun c => hs.has b c)⟩
theorem class_ag (hL : cs.length ≤ s.size) (h : Rl s cs D (stepI st) r) (ht : Nat) : Agree (classF s r) (classR cs st).2 (fun p r' => Rl s cs D (classR cs st).2 r' ∧ Tr (classR cs st) p (ht + 1)) := by
 have key : ∀ (c : Int) (r2 : Rs), Rl s cs D (if decide (rnF cs (stepI st) = 94) = true then stepI (stepI st) else stepI st) r2 → decide (rnF cs (stepI st) = 94) = decide (c = 94) → Agree ((classLoop s (s.size + 1) true [] r2).on fun l r => .ok (.mk 0 l (decide (c = 94)) false [] 0) (moreSz (skipF 93 r))) (classR cs st).2 (fun p r' => Rl s cs D (classR cs st).2 r' ∧ Tr (classR cs st) p (ht + 1)) := by
  intro c r2 h2 hc
  have hk := classL_ag (cs.length + 2) (s.size + 1) true [] [] _ _ h2 (SS.refl []) ⟨fun _ => rfl, fun _ => rfl⟩ (by omega) (by omega)
  have hdef : ∀ x, classL cs (cs.length + 2) [] (if decide (rnF cs (stepI st) = 94) = true then stepI (stepI st) else stepI st) = x → classR cs st = match x.1 with | none => (0, x.2) | some l => addN ⟨0, 0, 0, l, decide (rnF cs (stepI st) = 94)⟩ x.2 := by
   intro x hx; subst hx; rfl
  generalize classL cs (cs.length + 2) [] (if decide (rnF cs (stepI st) = 94) = true then stepI (stepI st) else stepI st) = x at *
  have hd := hdef x rfl
  refine on_ag hk (fun l r1 g => ?_) (fun he => ?_)
  ·obtain ⟨l0, e1, e2, e3⟩ := g
   rw [e1] at hd
   have hd2 : classR cs st = addN ⟨0, 0, 0, l0, decide (rnF cs (stepI st) = 94)⟩ x.2 := hd
   rw [hd2, hc]
   exact ⟨(e3.add _).sz, tr_set l0 _ l _ e2 ht⟩
  ·rw [hd]
   cases x.1 <;> rfl
 unfold classF
 rcases peek_three h with ⟨hp, hr, -⟩ | ⟨hp, hr, hi⟩ | ⟨h0, hp, hR, -⟩
 ·rw [hp]
  have hd : decide (rnF cs (stepI st) = 94) = false := decide_eq_false (by omega)
  exact key (-1) _ (by rw [if_neg (by rw [hd]; decide), if_neg (by decide)]; exact h) (by rw [hd]; rfl)
 ·rw [hp]
  have hd : decide (rnF cs (stepI st) = 94) = false := decide_eq_false (by omega)
  refine ⟨?_, by decide⟩
  have h1 := class_pend (n := cs.length + 2) [] h.e hr (by omega)
  unfold classR
  simp only
  rw [hd]
  simp only [Bool.false_eq_true, if_false]
  split <;> exact h1
 ·rw [hp]
  by_cases hc : rnF cs (stepI st) = 94
  ·exact key _ _ (by rw [if_pos (decide_eq_true hc), if_pos hc]; rw [hc] at hR; exact hR) rfl
  ·exact key _ _ (by rw [if_neg (by rw [decide_eq_false hc]; decide), if_neg hc]; exact h) rfl
def AltAg (s : ByteArray) (cs : List Int) (alt : St → Int × St) (pat : Rs → Out Part) (D : Int) (h : Nat) : Prop := ∀ st r, Rl s cs D st r → Agree (pat r) (alt st).2 (fun p r' => Rl s cs D (alt st).2 r' ∧ rnF cs (alt st).2 ≠ -1 ∧ Tr (alt st) p h)
variable {alt : St → Int × St} {pat : Rs → Out Part} {ht : Nat}
theorem atom_ag (hL : cs.length ≤ s.size) (hA : D < 20 → AltAg s cs alt pat (D + 1) (ht + 1)) (hD : D ≤ 20) (h : Rl s cs D st r) (hn : rnF cs st ≠ -2) : Agree (atomF pat s r) (atomR alt cs st).2 (fun p r' => Rl s cs D (atomR alt cs st).2 r' ∧ Tr (atomR alt cs st) p (ht + 1)) := by
 have har : atomR alt cs st = if rnF cs st = 40 then (if st.deep = 20 then (0, failS 60 st) else if rnF cs (alt { stepI st with deep := st.deep + 1 }).2 = 41 then ((alt { stepI st with deep := st.deep + 1 }).1, { stepI (alt { stepI st with deep := st.deep + 1 }).2 with deep := (alt { stepI st with deep := st.deep + 1 }).2.deep - 1 }) else (0, failS 8 (alt { stepI st with deep := st.deep + 1 }).2))
   else if rnF cs st = 91 then classR cs st
   else if rnF cs st = 46 then addN ⟨0, 0, 0, [], true⟩ (stepI st)
   else if rnF cs st = 92 then addN ⟨0, 0, 0, (escR cs st).1, false⟩ (escR cs st).2
   else if rnF cs st < 0 ∨ specialF (rnF cs st) = true then (0, failS 8 st)
   else addN ⟨0, 0, 0, [⟨rnF cs st, rnF cs st⟩], false⟩ (stepI st) := rfl
 unfold atomF
 rcases peek_three h with ⟨hp, hr, -⟩ | ⟨hp, hr, hi⟩ | ⟨h0, hp, hR, -⟩
 ·exact (hn hr).elim
 ·rw [hp, har, hr, if_neg (by decide), if_neg (by decide), if_neg (by decide), if_neg (by decide), if_pos (.inl (by decide))]
  exact ⟨fail_ag h 8, by decide⟩
 ·rw [hp, on_okE]
  by_cases h40 : rnF cs st = 40
  ·rw [if_pos h40]
   rw [if_pos h40] at har
   rw [h40] at hR
   unfold groupF
   by_cases hd : D = 20
   ·rw [if_pos (by rw [h.depth]; omega), har, if_pos (by rw [h.deep]; exact hd)]
    exact ⟨fail_ag h 60, by decide⟩
   ·rw [if_neg (by rw [h.depth]; omega)]
    rw [if_neg (by rw [h.deep]; exact hd)] at har
    have hB := hA (by omega) { stepI st with deep := st.deep + 1 } { skipF 40 r with depth := r.depth + 1 } ⟨hR.e, hR.pos, by show st.deep + 1 = _; rw [h.deep], by show r.depth + 1 = _; rw [h.depth]⟩
    generalize alt { stepI st with deep := st.deep + 1 } = x at *
    refine on_ag hB (fun p r1 g => ?_) (fun he => ?_)
    ·obtain ⟨g1, g2, k, nd, g3, g4, g5⟩ := g
     rcases peek_three g1 with ⟨hp1, hr1, -⟩ | ⟨hp1, hr1, hi1⟩ | ⟨h1, hp1, hR1, -⟩
     ·rw [hp1, har, if_neg (by omega)]
      exact ⟨fail_ag g1 8, by decide⟩
     ·exact (g2 hr1).elim
     ·rw [hp1, on_okE]
      by_cases hc : rnF cs x.2 = 41
      ·rw [if_neg (fun e => e hc), har, if_pos hc]
       rw [hc] at hR1
       refine ⟨⟨hR1.e, hR1.pos, ?_, ?_⟩, k, nd, g3, g4, g5⟩
       ·show x.2.deep - 1 = D
        rw [g1.deep]; omega
       ·show r1.depth - 1 = D
        rw [g1.depth]; omega
      ·rw [if_pos hc, har, if_neg hc]
       exact ⟨fail_ag g1 8, by decide⟩
    ·rw [har, if_neg (by rw [now_bad he]; decide)]
     exact (mo_fail 8 x.2).stick he
  ·rw [if_neg h40]
   rw [if_neg h40] at har
   by_cases h91 : rnF cs st = 91
   ·rw [if_pos h91]
    rw [if_pos h91] at har
    rw [har]
    exact class_ag hL hR ht
   ·rw [if_neg h91]
    rw [if_neg h91] at har
    by_cases h46 : rnF cs st = 46
    ·rw [if_pos h46]
     rw [if_pos h46] at har
     rw [har]
     exact ⟨(hR.add _).sz, tr_set _ _ _ _ (SS.refl _) ht⟩
    ·rw [if_neg h46]
     rw [if_neg h46] at har
     by_cases h92 : rnF cs st = 92
     ·rw [if_pos h92]
      rw [if_pos h92] at har
      rw [har]
      exact on_ag (esc_ag hR) (fun y r1 g => ⟨(g.at_.add _).sz, tr_set _ _ _ _ g.same ht⟩) (fun _ => rfl)
     ·rw [if_neg h92]
      rw [if_neg h92] at har
      by_cases hs : specialF (rnF cs st) = true
      ·rw [if_pos hs]
       rw [if_pos (.inr hs)] at har
       rw [har]
       exact ⟨fail_ag h 8, by decide⟩
      ·rw [if_neg hs]
       rw [if_neg (fun e => e.elim (fun e => by omega) hs)] at har
       rw [har]
       exact ⟨(hR.add _).sz, tr_set _ _ _ _ (SS.refl _) ht⟩
theorem sign_kind (g : Int) : (signB g = true ↔ (g = 42 ∨ g = 43 ∨ g = 63)) ∧ (kindOf g = 6 ↔ signB g = false) := by
 have h1 : signB g = true ↔ (g = 42 ∨ g = 43 ∨ g = 63) := by
  unfold signB
  simp only [Bool.or_eq_true, decide_eq_true_eq, or_assoc]
 refine ⟨h1, ?_⟩
 unfold kindOf
 constructor
 ·intro h2
  cases h3 : signB g with
  | false => rfl
  | true =>
   rcases h1.1 h3 with rfl | rfl | rfl <;> revert h2 <;> decide
 ·intro h2
  have h3 : ¬ (g = 42 ∨ g = 43 ∨ g = 63) := fun e => by have := h1.2 e; rw [h2] at this; cases this
  rw [if_neg (by omega), if_neg (by omega), if_neg (by omega)]
theorem branch_pend {n : Nat} (nn : Int) (he : st.e = 0) (hr : rnF cs st = -1) (hn : 1 ≤ n) (hA : MoA alt) : (branchL alt cs n nn st).2.e = 8 := by
 cases n with
 | zero => omega
 | succ n =>
  unfold branchL
  rw [if_pos (by rw [hr]; rfl)]
  have h1 : atomR alt cs st = (0, failS 8 st) := by
   unfold atomR
   simp only
   rw [hr, if_neg (by decide), if_neg (by decide), if_neg (by decide), if_neg (by decide), if_pos (.inl (by decide))]
  have h2 : (failS 8 st).e = 8 := by unfold failS; rw [if_pos he]
  have h3 := ((mo_piece hA cs st).trans (mo_add ⟨1, nn, (pieceR alt cs st).1, [], false⟩ (pieceR alt cs st).2)).trans (mo_branchL hA cs n (addN ⟨1, nn, (pieceR alt cs st).1, [], false⟩ (pieceR alt cs st).2).1 (addN ⟨1, nn, (pieceR alt cs st).1, [], false⟩ (pieceR alt cs st).2).2)
  rw [h1] at h3
  rw [h3.stick (by show (failS 8 st).e ≠ 0; omega)]
  exact h2
theorem branchL_ag (hL : cs.length ≤ s.size) (hA : D < 20 → AltAg s cs alt pat (D + 1) (ht + 1)) (hM : MoA alt) (hO : AltOk alt cs) (hD : D ≤ 20) : ∀ (n m : Nat) (acc : List Part) (nn : Nat) (nd : Nd) (st : St) (r : Rs), Rl s cs D st r → TreeN st.L nn nd → SimC (ht + 2) acc nd → cs.length - st.i < n → cs.length - st.i < m →
  Agree ((peekF s r).on fun c r => branchLoop pat s m c acc r) (branchL alt cs n nn st).2 (fun l r' => Rl s cs D (branchL alt cs n nn st).2 r' ∧ rnF cs (branchL alt cs n nn st).2 ≠ -1 ∧ ∃ (k : Nat) (nd : Nd), (branchL alt cs n nn st).1 = (k : Int) ∧ TreeN (branchL alt cs n nn st).2.L k nd ∧ SimC (ht + 2) l nd)
 | 0, _, _, _, _, _, _, _, _, _, h, _ => by omega
 | _ + 1, 0, _, _, _, _, _, _, _, _, _, h => by omega
 | n + 1, m + 1, acc, nn, nd, st, r, h, hT, hS, hn, hm => by
  have stop : goesOn (rnF cs st) = false → branchL alt cs (n + 1) nn st = ((nn : Int), st) := fun hg => by
   show (if goesOn (rnF cs st) = true then _ else _) = _
   rw [if_neg (by rw [hg]; decide)]
  rcases peek_three h with ⟨hp, hr, -⟩ | ⟨hp, hr, hi⟩ | ⟨h0, hp, hR, hi⟩
  ·rw [hp, on_okE, stop (by rw [hr]; rfl)]
   unfold branchLoop
   rw [if_neg (by omega)]
   exact ⟨h, (fun e => by have e2 : rnF cs st = -1 := e; omega), nn, nd, rfl, hT, hS⟩
  ·rw [hp]
   exact ⟨branch_pend _ h.e hr (by omega) hM, by decide⟩
  ·rw [hp, on_okE]
   unfold branchLoop
   by_cases hg : rnF cs st = 124 ∨ rnF cs st = 41
   ·rw [if_neg (by omega), stop (by unfold goesOn; rcases hg with e | e <;> rw [e] <;> rfl)]
    exact ⟨h, (fun e => by have e2 : rnF cs st = -1 := e; omega), nn, nd, rfl, hT, hS⟩
   ·rw [if_pos ⟨h0, by omega, by omega⟩]
    have hgo : goesOn (rnF cs st) = true := by
     unfold goesOn
     rw [decide_eq_false (by omega), decide_eq_false (by omega), decide_eq_false (by omega)]; rfl
    have hbl : branchL alt cs (n + 1) nn st = branchL alt cs n (addN ⟨1, nn, (pieceR alt cs st).1, [], false⟩ (pieceR alt cs st).2).1 (addN ⟨1, nn, (pieceR alt cs st).1, [], false⟩ (pieceR alt cs st).2).2 := by
     show (if goesOn (rnF cs st) = true then _ else _) = _
     rw [if_pos hgo]
    rw [hbl]
    have hne : rnF cs st ≠ -2 := by omega
    have hmv := (mv_atom hO hne).go
    have hmA := mo_atom hM cs st
    refine on_ag (atom_ag hL hA hD h hne) (fun a r1 g => ?_) ((mo_piece hM cs st).trans ((mo_add _ _).trans (mo_branchL hM cs n _ _))).stick
    obtain ⟨g1, k, an, g3, g4, g5⟩ := g
    have hfw := hmv.fwd g1.e
    have hhi := hmv.hi
    have hpc : pieceR alt cs st = if kindOf (rnF cs (atomR alt cs st).2) = 6 then atomR alt cs st else addN ⟨kindOf (rnF cs (atomR alt cs st).2), (atomR alt cs st).1, 0, [], false⟩ (stepI (atomR alt cs st).2) := rfl
    generalize atomR alt cs st = x at *
    have hT1 := hT.mo hmA
    have plain : signB (rnF cs x.2) = false → pieceR alt cs st = x := fun e => by rw [hpc, if_pos ((sign_kind _).2.2 e)]
    have keep : pieceR alt cs st = x → Agree ((peekF s r1).on fun c r => branchLoop pat s m c (acc ++ [a]) r) (branchL alt cs n (addN ⟨1, nn, (pieceR alt cs st).1, [], false⟩ (pieceR alt cs st).2).1 (addN ⟨1, nn, (pieceR alt cs st).1, [], false⟩ (pieceR alt cs st).2).2).2 (fun l r' => Rl s cs D (branchL alt cs n (addN ⟨1, nn, (pieceR alt cs st).1, [], false⟩ (pieceR alt cs st).2).1 (addN ⟨1, nn, (pieceR alt cs st).1, [], false⟩ (pieceR alt cs st).2).2).2 r' ∧ rnF cs (branchL alt cs n (addN ⟨1, nn, (pieceR alt cs st).1, [], false⟩ (pieceR alt cs st).2).1 (addN ⟨1, nn, (pieceR alt cs st).1, [], false⟩ (pieceR alt cs st).2).2).2 ≠ -1 ∧ ∃ (k : Nat) (nd : Nd), (branchL alt cs n (addN ⟨1, nn, (pieceR alt cs st).1, [], false⟩ (pieceR alt cs st).2).1 (addN ⟨1, nn, (pieceR alt cs st).1, [], false⟩ (pieceR alt cs st).2).2).1 = (k : Int) ∧ TreeN (branchL alt cs n (addN ⟨1, nn, (pieceR alt cs st).1, [], false⟩ (pieceR alt cs st).2).1 (addN ⟨1, nn, (pieceR alt cs st).1, [], false⟩ (pieceR alt cs st).2).2).2.L k nd ∧ SimC (ht + 2) l nd) := by
     intro e
     rw [e, g3]
     exact branchL_ag hL hA hM hO hD n m (acc ++ [a]) x.2.L.length (.cat nd an) (addN ⟨1, nn, k, [], false⟩ x.2).2 r1 (g1.add _) (.cat (get_new _ _) hT1.more g4.more) (.snoc hS (sim_up g5)) (by show cs.length - x.2.i < n; omega) (by show cs.length - x.2.i < m; omega)
    rcases peek_three g1 with ⟨hp1, hr1, -⟩ | ⟨hp1, hr1, hi1⟩ | ⟨h1, hp1, hR1, hi1⟩
    ·rw [hp1, on_okE]
     rw [if_neg (by decide), if_neg (by decide)]
     exact keep (plain (by rw [hr1]; rfl))
    ·rw [hp1]
     have e := plain (by rw [hr1]; rfl)
     rw [e]
     exact ⟨branch_pend (st := (addN ⟨1, nn, x.1, [], false⟩ x.2).2) _ g1.e hr1 (by omega) hM, by decide⟩
    ·rw [hp1, on_okE]
     cases hsg : signB (rnF cs x.2) with
     | false =>
      rw [if_neg (by decide), if_neg (by decide)]
      exact keep (plain hsg)
     | true =>
      rw [if_pos rfl, if_pos rfl]
      rw [if_neg (fun e => by rw [(sign_kind _).2.1 e] at hsg; cases hsg)] at hpc
      rw [hpc, g3]
      exact branchL_ag hL hA hM hO hD n m (acc ++ [Part.mk 3 [] false false [a] (rnF cs x.2)]) (addN ⟨kindOf (rnF cs x.2), k, 0, [], false⟩ (stepI x.2)).2.L.length (.cat nd (.rep (rnF cs x.2) an)) (addN ⟨1, nn, x.2.L.length, [], false⟩ (addN ⟨kindOf (rnF cs x.2), k, 0, [], false⟩ (stepI x.2)).2).2 _ ((hR1.add _).add _)
       (.cat (get_new _ _) hT1.more.more (.rep ((sign_kind _).1.1 hsg) (get_more (get_new _ _)) g4.more.more))
       (.snoc hS (.again g5)) (by show cs.length - (x.2.i + 1) < n; omega) (by show cs.length - (x.2.i + 1) < m; omega)
theorem branch_ag (hL : cs.length ≤ s.size) (hA : D < 20 → AltAg s cs alt pat (D + 1) (ht + 1)) (hM : MoA alt) (hO : AltOk alt cs) (hD : D ≤ 20) (h : Rl s cs D st r) : Agree (branchF pat s r) (branchR alt cs st).2 (fun p r' => Rl s cs D (branchR alt cs st).2 r' ∧ rnF cs (branchR alt cs st).2 ≠ -1 ∧ Tr (branchR alt cs st) p (ht + 3)) := by
 unfold branchF
 rw [← on_assoc (peekF s r)]
 have hk := branchL_ag hL hA hM hO hD (cs.length + 2) (s.size + 1) [] st.L.length .none (addN ⟨6, 0, 0, [], false⟩ st).2 r (h.add _) (.none (get_new _ _)) .nil (by omega) (by omega)
 refine on_ag hk (fun l r1 g => ?_) (fun _ => rfl)
 obtain ⟨g1, g2, k, nd, g3, g4, g5⟩ := g
 exact ⟨g1, g2, k, nd, g3, g4, .many g5⟩
theorem altL_ag (hL : cs.length ≤ s.size) (hA : D < 20 → AltAg s cs alt pat (D + 1) (ht + 1)) (hM : MoA alt) (hO : AltOk alt cs) (hD : D ≤ 20) : ∀ (n m : Nat) (acc : List Part) (nn : Nat) (nd : Nd) (st : St) (r : Rs), Rl s cs D st r → rnF cs st ≠ -1 → TreeN st.L nn nd → SimA (ht + 3) acc nd → cs.length - st.i < n → cs.length - st.i < m →
  Agree (patLoop pat s m acc r) (altL alt cs n nn st).2 (fun l r' => Rl s cs D (altL alt cs n nn st).2 r' ∧ rnF cs (altL alt cs n nn st).2 ≠ -1 ∧ ∃ (k : Nat) (nd : Nd), (altL alt cs n nn st).1 = (k : Int) ∧ TreeN (altL alt cs n nn st).2.L k nd ∧ SimA (ht + 3) l nd)
 | 0, _, _, _, _, _, _, _, _, _, _, h, _ => by omega
 | _ + 1, 0, _, _, _, _, _, _, _, _, _, _, h => by omega
 | n + 1, m + 1, acc, nn, nd, st, r, h, h1, hT, hS, hn, hm => by
  have stop : rnF cs st ≠ 124 → altL alt cs (n + 1) nn st = ((nn : Int), st) := fun hg => by
   show (if rnF cs st = 124 then _ else _) = _
   rw [if_neg hg]
  unfold patLoop
  rcases peek_three h with ⟨hp, hr, -⟩ | ⟨hp, hr, hi⟩ | ⟨h0, hp, hR, hi⟩
  ·rw [hp, on_okE, stop (by omega)]
   rw [if_neg (by decide)]
   exact ⟨h, h1, nn, nd, rfl, hT, hS⟩
  ·exact (h1 hr).elim
  ·rw [hp, on_okE]
   by_cases hc : rnF cs st = 124
   ·rw [if_pos hc]
    rw [hc] at hR
    have hbl : altL alt cs (n + 1) nn st = altL alt cs n (addN ⟨2, nn, (branchR alt cs (stepI st)).1, [], false⟩ (branchR alt cs (stepI st)).2).1 (addN ⟨2, nn, (branchR alt cs (stepI st)).1, [], false⟩ (branchR alt cs (stepI st)).2).2 := by
     show (if rnF cs st = 124 then _ else _) = _
     rw [if_pos hc]
    rw [hbl]
    have hmv := (mv_branch hO (st := stepI st) (show st.i + 1 ≤ cs.length by omega)).go
    have hmB := (mo_step st).trans (mo_branch hM cs (stepI st))
    refine on_ag (branch_ag hL hA hM hO hD hR) (fun b r1 g => ?_) ((mo_add _ _).trans (mo_altL hM cs n _ _)).stick
    obtain ⟨g1, g2, k, bn, g3, g4, g5⟩ := g
    have hfw := hmv.fwd g1.e
    have hhi := hmv.hi
    generalize branchR alt cs (stepI st) = x at *
    rw [g3]
    have hfw2 : st.i + 1 + 0 ≤ x.2.i := hfw.2
    exact altL_ag hL hA hM hO hD n m (acc ++ [b]) x.2.L.length (.alt nd bn) (addN ⟨2, nn, k, [], false⟩ x.2).2 r1 (g1.add _) g2 (.alt (get_new _ _) (hT.mo hmB).more g4.more) (.snoc hS g5) (by show cs.length - x.2.i < n; omega) (by show cs.length - x.2.i < m; omega)
   ·rw [if_neg hc, stop hc]
    exact ⟨h, h1, nn, nd, rfl, hT, hS⟩
theorem altS_ag (hL : cs.length ≤ s.size) (hA : D < 20 → AltAg s cs alt pat (D + 1) (ht + 1)) (hM : MoA alt) (hO : AltOk alt cs) (hD : D ≤ 20) : AltAg s cs (altS alt cs) (patS pat s) D (ht + 4) := by
 intro st r h
 unfold patS
 have hmv := (mv_branch hO (st := st) h.pos.hi).go
 refine on_ag (branch_ag hL hA hM hO hD h) (fun b r1 g => ?_) (mo_altL hM cs _ _ _).stick
 obtain ⟨g1, g2, k, bn, g3, g4, g5⟩ := g
 have hk := altL_ag hL hA hM hO hD (cs.length + 2) (s.size + 1) [b] k bn _ _ g1 g2 g4 (.one g5) (by omega) (by omega)
 have hd : altS alt cs st = altL alt cs (cs.length + 2) k (branchR alt cs st).2 := by unfold altS; rw [g3]
 rw [hd]
 refine on_ag hk (fun l r2 g => ?_) (fun _ => rfl)
 obtain ⟨g1, g2, k, nd, g3, g4, g5⟩ := g
 exact ⟨g1, g2, k, nd, g3, g4, .alike g5⟩
end
theorem alt_ag {s : ByteArray} {cs : List Int} (hL : cs.length ≤ s.size) : ∀ d : Nat, d ≤ 20 → AltAg s cs (altR cs (d + 1)) (patF s (d + 1)) (20 - d) (3 * d + 4)
 | 0, _ => altS_ag (ht := 0) hL (fun h => by omega) (mo_alt cs 0) (mv_alt 0) (by omega)
 | d + 1, hd => by
  have ih := alt_ag hL d (by omega)
  refine altS_ag (ht := 3 * d + 3) hL (fun _ => ?_) (mo_alt cs (d + 1)) (mv_alt (d + 1)) (by omega)
  have e : ((20 : Int) - ((d + 1 : Nat) : Int)) + 1 = 20 - (d : Int) := by omega
  rw [e]
  exact ih
theorem doc_ag (s : ByteArray) (hs : s.size ≤ 256) : match parseF s with | .ok p _ => (docR (codes (chsF s s.size 0))).2.e = 0 ∧ Tr (docR (codes (chsF s s.size 0))) p 64 | .bad _ e => (docR (codes (chsF s s.size 0))).2.e = e ∧ e ≠ 0 := by
 have hL : (codes (chsF s s.size 0)).length ≤ s.size := by unfold codes; rw [List.length_map]; exact chs_len s s.size 0
 have hp := pos_zero s
 generalize codes (chsF s s.size 0) = cs at *
 have hk := alt_ag hL 20 (by omega) ⟨0, 0, 0, []⟩ ⟨0, 0, 0⟩ ⟨rfl, hp, rfl, rfl⟩
 have hd : docR cs = ((altR cs 21 ⟨0, 0, 0, []⟩).1, if (altR cs 21 ⟨0, 0, 0, []⟩).2.i < cs.length then failS 8 (altR cs 21 ⟨0, 0, 0, []⟩).2 else (altR cs 21 ⟨0, 0, 0, []⟩).2) := rfl
 rw [hd]
 unfold parseF
 rw [if_neg (by omega)]
 have h20 : (20 : Int) - ((20 : Nat) : Int) = 0 := by omega
 rw [h20] at hk
 change Agree (patF s 21 ⟨0, 0, 0⟩) (altR cs 21 ⟨0, 0, 0, []⟩).2 _ at hk
 generalize altR cs 21 ⟨0, 0, 0, []⟩ = x at *
 have fin : Agree ((patF s 21 ⟨0, 0, 0⟩).on fun p r => if r.at_ < (s.size : Int) then .bad r.at_ 8 else .ok p r) (if x.2.i < cs.length then failS 8 x.2 else x.2) (fun p r => (if x.2.i < cs.length then failS 8 x.2 else x.2).e = 0 ∧ Tr (x.1, if x.2.i < cs.length then failS 8 x.2 else x.2) p 64) := by
  refine on_ag hk (fun p r g => ?_) (fun he => ?_)
  ·obtain ⟨g1, g2, g3⟩ := g
   by_cases hc : r.at_ < (s.size : Int)
   ·rw [if_pos hc]
    obtain ⟨a, -, -, h3, -⟩ := pos_at g1.pos (by omega)
    rw [if_pos (List.getElem?_eq_some_iff.1 h3).1]
    exact ⟨fail_ag g1 8, by decide⟩
   ·rw [if_neg hc]
    obtain ⟨-, h3⟩ := pos_end g1.pos (by omega)
    rw [if_neg (by omega)]
    exact ⟨g1.e, g3⟩
  ·split
   ·exact (mo_fail 8 x.2).stick he
   ·rfl
 generalize ((patF s 21 ⟨0, 0, 0⟩).on fun p r => if r.at_ < (s.size : Int) then .bad r.at_ 8 else .ok p r) = o at *
 cases o with
 | ok p r => exact fin
 | bad a e => exact fin
end Go.Proofs.YtlhmdgaohonpbaaGreatDoor
