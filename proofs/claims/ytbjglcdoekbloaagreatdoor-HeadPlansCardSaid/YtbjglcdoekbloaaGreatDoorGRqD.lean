import Derived.Test.YtbjglcdoekbloaaGreatDoorGRqA
import Derived.Test.YtbjglcdoekbloaaGreatDoorGRwE
import Derived.Test.YtbjglcdoekbloaaGreatDoorGRqC
import Derived.Test.YtbjglcdoekbloaaGreatDoorGRqB
set_option linter.unusedSimpArgs false
set_option linter.unusedVariables false
set_option linter.unusedSectionVars false
/- plain: for the walk of the document's Plan. -/
namespace Go.Proofs.YtbjglcdoekbloaaGreatDoor
open Go.Proofs.YtbjglcdoekbloaaGreatDoor.MapRaw

theorem next_take (l : List Sr) (k : Nat) (hk : k < l.length) : nextK ((l.take (k + 1)).map Sr.key) = max (nextK ((l.take k).map Sr.key)) (l[k].ref + 1) := by
  rw [List.take_succ_eq_append_getElem hk, List.map_append]
  unfold nextK
  rw [List.foldl_append]; rfl
theorem born_top : ∀ (ls : List (List Lb)) (b : List Ky × List Rec), maxK (ls.foldl bornStep b).1 = maxK b.1 + ((ls.foldl bornStep b).2.length - b.2.length : Int)
  | [], b => by simp
  | a :: ls, b => by
    rw [List.foldl_cons, born_top ls (bornStep b a)]
    have h : maxK (bornStep b a).1 = maxK b.1 + ((bornStep b a).2.length - b.2.length : Int) := by
      unfold bornStep
      by_cases h2 : hasLab b.1 a = true
      · rw [if_pos h2]; omega
      · rw [if_neg h2]
        have hlt : ∀ k ∈ b.1, k.1 < nextK b.1 := fun k hk => by rw [next_max]; have := (max_le (K := b.1)).1 k hk; omega
        show maxK (addL b.1 _) = maxK b.1 + (((b.2 ++ [_]).length : Nat) - (b.2.length : Nat) : Int)
        rw [add_last hlt, max_add, List.length_append, next_max]
        show max (maxK b.1) (maxK b.1 + 1) = _
        simp
        omega
    rw [h]
    omega
theorem born_len : ∀ (ls : List (List Lb)) (b : List Ky × List Rec), ((ls.foldl bornStep b).1.length : Int) = b.1.length + ((ls.foldl bornStep b).2.length - b.2.length : Int)
  | [], b => by simp
  | a :: ls, b => by
    rw [List.foldl_cons, born_len ls (bornStep b a)]
    have h : ((bornStep b a).1.length : Int) = b.1.length + ((bornStep b a).2.length - b.2.length : Int) := by
      unfold bornStep
      by_cases h2 : hasLab b.1 a = true
      · rw [if_pos h2]; omega
      · rw [if_neg h2]
        have hlt : ∀ k ∈ b.1, k.1 < nextK b.1 := fun k hk => by rw [next_max]; have := (max_le (K := b.1)).1 k hk; omega
        show ((addL b.1 _).length : Int) = b.1.length + (((b.2 ++ [_]).length : Nat) - (b.2.length : Nat) : Int)
        rw [add_last hlt, List.length_append, List.length_append]
        simp
        omega
    rw [h]
    omega
theorem fresh_mono (K : List Ky) (l : List Po) : ∀ k, freshL K (l.take k) ≤ freshL K l := by
  have h1 : ∀ (s : List (List Lb) × Nat) (p : Po), s.2 ≤ (freshStep K s p).2 := fun s p => by
    unfold freshStep
    simp only
    split <;> omega
  have h : ∀ (l : List Po) (s : List (List Lb) × Nat), s.2 ≤ (l.foldl (freshStep K) s).2 := by
    intro l
    induction l with
    | nil => intro s; exact Nat.le_refl _
    | cons p l ih => intro s; rw [List.foldl_cons]; exact Nat.le_trans (h1 s p) (ih _)
  intro k
  have e : l = l.take k ++ l.drop k := (List.take_append_drop k l).symm
  unfold freshL
  conv => rhs; rw [e]
  rw [List.foldl_append]
  exact h _ _
theorem born_take (K : List Ky) (l : List Po) (k : Nat) (hk : k < l.length) : bornAll K ((l.take (k + 1)).map Po.lab) = bornStep (bornAll K ((l.take k).map Po.lab)) l[k].lab := by
  unfold bornAll
  rw [List.take_succ_eq_append_getElem hk, List.map_append, List.foldl_append]; rfl
/-- what is true of the series while they are made -/
structure BornAt (K : List Ky) (l : List Po) (k : Nat) (b : List Ky × List Rec) : Prop where
  eq : b = bornAll K ((l.take k).map Po.lab)
  rk : RK b.1
  len : b.1.length ≤ K.length + freshL K l
  top : maxK b.1 ≤ maxK K + freshL K l
  pos : ∀ x ∈ b.1, 0 < x.1
theorem BornAt.start {K : List Ky} {l : List Po} (h : RK K) (hp : ∀ x ∈ K, 0 < x.1) : BornAt K l 0 (K, []) := ⟨rfl, h, by show K.length ≤ _; omega, by show maxK K ≤ _; omega, hp⟩
theorem BornAt.same {K : List Ky} {l : List Po} {k : Nat} {b : List Ky × List Rec} (h : BornAt K l k b) (hk : k < l.length) (hl : hasLab b.1 l[k].lab = true) : BornAt K l (k + 1) b := by
  refine ⟨?_, h.rk, h.len, h.top, h.pos⟩
  rw [born_take K l k hk, ← h.eq]
  unfold bornStep; rw [if_pos hl]
theorem BornAt.more {K : List Ky} {l : List Po} {k : Nat} {b : List Ky × List Rec} (h : BornAt K l k b) (hk : k < l.length) (hl : hasLab b.1 l[k].lab = false) :
    nextK b.1 ≤ maxK K + freshL K l ∧ b.1.length < K.length + freshL K l ∧ BornAt K l (k + 1) (addL b.1 (nextK b.1, l[k].lab, []), b.2 ++ [⟨1, nextK b.1, l[k].lab, []⟩]) := by
  have hb : (addL b.1 (nextK b.1, l[k].lab, []), b.2 ++ [⟨1, nextK b.1, l[k].lab, []⟩]) = bornAll K ((l.take (k + 1)).map Po.lab) := by
    rw [born_take K l k hk, ← h.eq]
    unfold bornStep; rw [if_neg (by simp [hl])]
  have hlt : ∀ k ∈ b.1, k.1 < nextK b.1 := fun k hk => by rw [next_max]; have := (max_le (K := b.1)).1 k hk; omega
  have hlen := born_len ((l.take (k + 1)).map Po.lab) (K, [])
  have htop := born_top ((l.take (k + 1)).map Po.lab) (K, [])
  have hf := fresh_len K (l.take (k + 1))
  have hm := fresh_mono K l (k + 1)
  change (((bornAll K ((l.take (k + 1)).map Po.lab)).1.length : Nat) : Int) = _ at hlen
  change maxK (bornAll K ((l.take (k + 1)).map Po.lab)).1 = _ at htop
  change _ = K.length + (((bornAll K ((l.take (k + 1)).map Po.lab)).2.length : Nat) - (([] : List Rec).length : Nat) : Int) at hlen
  change _ = maxK K + (((bornAll K ((l.take (k + 1)).map Po.lab)).2.length : Nat) - (([] : List Rec).length : Nat) : Int) at htop
  rw [hf, ← hb] at hlen htop
  simp only [List.length_nil] at hlen htop
  rw [add_last hlt] at hlen htop
  rw [max_add] at htop
  rw [List.length_append] at hlen
  have hn := next_max b.1
  have hn0 := (max_le (K := b.1)).2
  simp only [List.length_cons, List.length_nil] at hlen htop
  refine ⟨by omega, by omega, ⟨hb, ⟨?_, fun x hx => ?_⟩, ?_, ?_, fun x hx => ?_⟩⟩
  · exact addL_rise h.rk.rise _
  · rcases addL_mem.1 hx with ⟨hx, _⟩ | rfl
    · exact h.rk.right x hx
    · show rightP [] = true; decide
  · show (addL b.1 _).length ≤ _
    rw [add_last hlt, List.length_append]; simp only [List.length_cons, List.length_nil]; omega
  · show maxK (addL b.1 _) ≤ _
    rw [add_last hlt, max_add]; simp only; omega
  · rcases addL_mem.1 hx with ⟨hx, _⟩ | rfl
    · exact h.pos x hx
    · show 0 < nextK b.1; omega
/-- the record of a series that is not there -/
theorem rec_new {K : List Ky} {lab : List Lb} (h : hasLab K lab = false) (hr : rightF lab = 0) (hl : K.length < 4096) : recR K ⟨1, nextK K, lab, []⟩ = (0, addL K (nextK K, lab, [])) := by
  have hn := next_max K
  have hn0 := (max_le (K := K)).2
  have hc : checkF ⟨1, nextK K, lab, []⟩ = 0 := by
    unfold checkF
    rw [if_pos rfl, if_neg (by simp; omega)]; exact hr
  have hlt : ∀ k ∈ K, k.1 < nextK K := fun k hk => by have := (max_le (K := K)).1 k hk; omega
  unfold recR
  rw [if_neg (by simp [hc]), if_pos rfl, if_neg, if_neg, if_neg (by omega)]
  · rintro (g | g)
    · obtain ⟨k, hk, e⟩ := List.any_eq_true.1 g
      simp at e
      have := hlt k hk
      omega
    · unfold hasLab at h
      rw [h] at g; cases g
  · intro g
    obtain ⟨k, hk, e⟩ := List.any_eq_true.1 g
    simp at e
    have := hlt k hk
    omega
/-! ### the points -/
theorem many_take (seq : Int) (s : List Ky × List En) (l : List Po) (k : Nat) (hk : k < l.length) : (l.take (k + 1)).foldl (manyStep seq) s = manyStep seq ((l.take k).foldl (manyStep seq) s) l[k] := by
  rw [List.take_succ_eq_append_getElem hk, List.foldl_append]; rfl
structure ManyAt (seq : Int) (B : List Ky) (l : List Po) (k : Nat) (s : List Ky × List En) : Prop where
  eq : s = (l.take k).foldl (manyStep seq) (B, [])
  rk : RK s.1
  labs : ∀ p ∈ l, hasLab s.1 p.lab = true
  len : s.1.length = B.length
  ents : s.2.length ≤ k
theorem set_lab (K : List Ky) (r : Int) (f : List Pt → List Pt) (lab : List Lb) : hasLab (setL K r f) lab = hasLab K lab := by
  unfold hasLab setL
  rw [List.any_map]
  congr 1
  funext k
  simp only [Function.comp_apply]
  split <;> rfl
theorem ManyAt.step {seq : Int} {B : List Ky} {l : List Po} {k : Nat} {s : List Ky × List En} (h : ManyAt seq B l k s) (hk : k < l.length) : ManyAt seq B l (k + 1) (manyStep seq s l[k]) := by
  refine ⟨by rw [many_take seq _ l k hk, ← h.eq], ?_, fun p hp => ?_, ?_, ?_⟩
  · unfold manyStep
    split
    · exact h.rk
    · rename_i y _
      split
      · exact h.rk
      · exact h.rk.put ⟨y.1, ptOf seq l[k]⟩
  · have := h.labs p hp
    unfold manyStep
    split
    · exact this
    · split
      · exact this
      · dsimp only
        rw [set_lab]; exact this
  · unfold manyStep
    split
    · exact h.len
    · split
      · exact h.len
      · dsimp only
        unfold setL; rw [List.length_map]; exact h.len
  · have := h.ents
    unfold manyStep
    split
    · omega
    · split
      · omega
      · dsimp only
        rw [List.length_append]; simp only [List.length_cons, List.length_nil]; omega
end Go.Proofs.YtbjglcdoekbloaaGreatDoor

/- the document's head: Plan; its first loop. -/
namespace Go.Proofs.YtbjglcdoekbloaaGreatDoor
open Go.RowKit Go.Proofs.YtbjglcdoekbloaaGreatDoor.MapRaw Go.ChangeMaps

theorem rnew_at {w w' : World} {xp : Nat} {v : Value} {l : List Sr} (h : RNew w xp v l w') : RfAt w' (xp :: ownL v) xp v l :=
  ⟨h.hc, ⟨_, h.own⟩, fun j hj => ⟨List.mem_cons_of_mem _ (ownL_mem.2 hj), fun e => h.ne (e ▸ hj)⟩, List.mem_cons_self .., h.ok.mono (fun k _ hD hm => by
    rcases List.mem_cons.1 hm with rfl | hm
    · exact hD.2 rfl
    · exact hD.1.2 (ownL_mem.1 hm).symm)⟩
/-- the copy of the document's head, and foreign mutable blocks R beside it -/
structure PlM (w : World) (xq : Nat) (L : List Ky) (X : List Nat) (vx : Value) (ls : List Sr) (R : List Nat) (wr : World) : Prop where
  ref : RfAt wr X xq vx ls
  keys : ls.map Sr.key = L
  new : ∀ x ∈ X, w.heap.size ≤ x
  lt : ∀ x ∈ X, x < wr.heap.size
  sep : ∀ j ∈ R, j ∈ X ∧ ¬ blksR xq vx j
  below : Below w.heap.size w wr
theorem PlM.start {w w' : World} {xp : Nat} {v : Value} {l : List Sr} (h : RNew w xp v l w') : PlM w xp (l.map Sr.key) (xp :: ownL v) v l [] w' := by
  have hown := fun k hk => ownsRow_blk h.own k hk
  refine ⟨rnew_at h, rfl, fun x hx => ?_, fun x hx => ?_, fun j hj => by simp at hj, h.below⟩
  · rcases List.mem_cons.1 hx with rfl | hx
    · exact h.xp
    · exact (hown x (ownL_mem.1 hx)).1
  · rcases List.mem_cons.1 hx with rfl | hx
    · exact (Array.getElem?_eq_some_iff.1 h.hc).1
    · exact (hown x (ownL_mem.1 hx)).2
theorem PlM.then {w wr w2 : World} {xq : Nat} {L : List Ky} {X : List Nat} {vx : Value} {ls : List Sr} {R : List Nat} (h : PlM w xq L X vx ls R wr) (hb : Below wr.heap.size wr w2) : PlM w xq L X vx ls R w2 :=
  ⟨h.ref.below hb, h.keys, h.new, fun x hx => Nat.lt_of_lt_of_le (h.lt x hx) hb.size, h.sep, bthen h.below hb⟩
theorem PlM.turn {w wr w2 : World} {xq : Nat} {L L' : List Ky} {X X' : List Nat} {vx vx' : Value} {ls : List Sr} {R : List Nat} (h : PlM w xq L X vx ls R wr) (ht : RTurned wr X xq vx w2 X' vx' L') : ∃ ls', PlM w xq L' X' vx' ls' R w2 := by
  obtain ⟨l', g1, g2⟩ := ht.at_
  refine ⟨l', g1, g2, fun x hx => (ht.more.new x hx).elim (h.new x) (fun h2 => Nat.le_trans h.below.size h2), ht.lt, fun j hj => ⟨ht.more.old j (h.sep j hj).1, fun hb => ?_⟩, apart_below h.below ht.apart (fun k hk => h.new k (h.ref.sub k hk))⟩
  obtain ⟨s1, s2⟩ := h.sep j hj
  rcases hb with hb | hb
  · exact s2 (.inl hb)
  · rcases ht.fine with hf | hf
    · exact s2 (.inr (hf ▸ hb))
    · have := hf j hb; have := h.lt j s1; omega
/-- a foreign block of R turns -/
theorem PlM.other {w wr w2 : World} {xq : Nat} {L : List Ky} {X : List Nat} {vx : Value} {ls : List Sr} {R : List Nat} {P : Nat → Prop} (h : PlM w xq L X vx ls R wr) (hA : Apart P wr w2) (hP : ∀ k, P k → k ∈ R) : PlM w xq L X vx ls R w2 :=
  ⟨h.ref.turn hA (fun k hk => (h.sep k (hP k hk)).1) (fun k hk hp => (h.sep k (hP k hp)).2 hk) (MoreX.refl _ _), h.keys, h.new, fun x hx => Nat.lt_of_lt_of_le (h.lt x hx) hA.size, h.sep, apart_below h.below hA (fun k hk => h.new k (h.sep k (hP k hk)).1)⟩
/-- new blocks are counted in -/
theorem PlM.more {w wr : World} {xq : Nat} {L : List Ky} {X : List Nat} {vx : Value} {ls : List Sr} {R : List Nat} {N : List Nat} {w2 : World} (h : PlM w xq L X vx ls R wr) (hb : Apart (fun k => k ∈ R) wr w2) (hN : ∀ k ∈ N, wr.heap.size ≤ k ∧ k < w2.heap.size) : PlM w xq L (X ++ N) vx ls (R ++ N) w2 := by
  have h2 := h.other hb (fun k hk => hk)
  have hout : ∀ k, k < wr.heap.size → k ∉ X → k ∉ X ++ N := fun k hk hX hm => by
    rcases List.mem_append.1 hm with hm | hm
    · exact hX hm
    · have := (hN k hm).1; omega
  have hok : SrOk w2 (fun k => k ∉ X ++ N) ls := by
    have h3 : SrOk wr (fun k => k ∉ X ∧ k < wr.heap.size) ls := SrOk.mono h.ref.ok (fun k hk hD => ⟨hD, hk⟩)
    exact SrOk.mono (SrOk.move h3 hb.size (fun k hk hD => hb.block k hk (fun hp => hD.1 (h.sep k hp).1))) (fun k _ hD => hout k hD.2 hD.1)
  refine ⟨⟨h2.ref.hc, h2.ref.own, fun j hj => ⟨List.mem_append_left _ (h2.ref.blk j hj).1, (h2.ref.blk j hj).2⟩, List.mem_append_left _ h2.ref.mem, hok⟩, h2.keys, fun x hx => ?_, fun x hx => ?_, fun j hj => ?_, h2.below⟩
  · rcases List.mem_append.1 hx with hx | hx
    · exact h.new x hx
    · exact Nat.le_trans h.below.size (hN x hx).1
  · rcases List.mem_append.1 hx with hx | hx
    · exact h2.lt x hx
    · exact (hN x hx).2
  · rcases List.mem_append.1 hj with hj | hj
    · exact ⟨List.mem_append_left _ (h.sep j hj).1, (h.sep j hj).2⟩
    · refine ⟨List.mem_append_right _ hj, fun hb2 => ?_⟩
      have h5 := h.ref.lt j hb2
      have := (hN j hj).1
      omega
theorem pl_old {α : Type} {sz : Nat} {enc : α → List Value} {w wr : World} {D : Nat → Prop} {X : List Nat} {v : Value} {l : List α} (h : Slc sz enc w D v l) (hb : Below w.heap.size w wr) (hX : ∀ k ∈ X, w.heap.size ≤ k) : Slc sz enc wr (fun k => k ∉ X) v l :=
  Slc.mono (Slc.below (Slc.mono (D' := fun k => k < w.heap.size) h (fun k hk _ => hk)) hb) (fun k _ hk hm => by have := hX k hm; omega)
/-- where the first loop stands -/
structure PlA (w : World) (xq : Nat) (K : List Ky) (ps : List Po) (k : Nat) (ov : Value) (wr : World) : Prop where
  ex : ∃ X vx ls ol b, PlM w xq b.1 X vx ls (ownL ov) wr ∧ ol.map RecV.r = b.2 ∧ BornAt K ps k b ∧ wr.ownsRow w.heap.size 45 4 ov ol.length (ol.flatMap RecV.enc) ∧ RecOk w (fun _ => True) ol
theorem PlA.start {w w' : World} {xp : Nat} {v : Value} {l : List Sr} {ps : List Po} (h : RNew w xp v l w') (hr : RK (l.map Sr.key)) (hp : ∀ x ∈ l.map Sr.key, 0 < x.1) : PlA w xp (l.map Sr.key) ps 0 (.slice none 0 0) w' :=
  ⟨_, _, _, [], (l.map Sr.key, []), PlM.start h, rfl, BornAt.start hr hp, World.ownsRow_nil w' w.heap.size _ _, fun x hx => by simp at hx⟩
theorem pla_next {w w4 w5 U w6 : World} {xq : Nat} {K : List Ky} {ps : List Po} {k : Nat} {ov v6 : Value} {X X' : List Nat} {vx vx' : Value} {ls : List Sr} {ol : List RecV} {b : List Ky × List Rec} {L' : List Ky} {x : RecV} (h : PlM w xq b.1 X vx ls (ownL ov) w4) (ho : w4.ownsRow w.heap.size 45 4 ov ol.length (ol.flatMap RecV.enc)) (hr : ol.map RecV.r = b.2) (hok : RecOk w (fun _ => True) ol)
    (ht : RTurned w4 X xq vx w5 X' vx' L') (hU : Below w5.heap.size w5 U) (hx : SlL w (fun _ => True) x.lv x.r.lab ∧ SlE w (fun _ => True) x.pv x.r.pts) (hb : BornAt K ps (k + 1) (L', b.2 ++ [x.r])) (ho6 : w6.ownsRow w.heap.size 45 4 v6 (ol.length + 1) (ol.flatMap RecV.enc ++ x.enc)) (hg : U.grownBy w6 ov.ownBlock) (hv : v6.ownBlock = ov.ownBlock ∨ v6.ownBlock = some U.heap.size) : PlA w xq K ps (k + 1) v6 w6 := by
  obtain ⟨ls', h5⟩ := h.turn ht
  have hA : Apart (fun k => k ∈ ownL ov) U w6 := (Apart.refl _ U).grown hg (fun k hk => .inl (ownL_mem.2 hk))
  have hall : RecOk w (fun _ => True) (ol ++ [x]) := fun y hy => by
    rcases List.mem_append.1 hy with hy | hy
    · exact hok y hy
    · simp at hy; subst hy; exact hx
  have hown : w6.ownsRow w.heap.size 45 4 v6 (ol ++ [x]).length ((ol ++ [x]).flatMap RecV.enc) := by simpa using ho6
  have hrr : (ol ++ [x]).map RecV.r = b.2 ++ [x.r] := by rw [List.map_append, hr]; rfl
  rcases hv with hv | hv
  · have e : ownL v6 = ownL ov := by unfold ownL; rw [hv]
    exact ⟨X', vx', ls', ol ++ [x], (L', b.2 ++ [x.r]), by rw [e]; exact (h5.then hU).other hA (fun k hk => hk), hrr, hb, hown, hall⟩
  · have hlt := (ownsRow_blk hown _ hv).2
    have h6 := (h5.then hU).more (N := [U.heap.size]) hA (fun k hk => by simp at hk; subst hk; exact ⟨Nat.le_refl _, hlt⟩)
    have e : ownL v6 = [U.heap.size] := by unfold ownL; rw [hv]
    refine ⟨X' ++ [U.heap.size], vx', ls', ol ++ [x], (L', b.2 ++ [x.r]), ⟨h6.ref, h6.keys, h6.new, h6.lt, fun j hj => h6.sep j (List.mem_append_right _ (by rw [e] at hj; exact hj)), h6.below⟩, hrr, hb, hown, hall⟩
/-! ### the second loop -/
theorem PlM.sub {w wr : World} {xq : Nat} {L : List Ky} {X : List Nat} {vx : Value} {ls : List Sr} {R R' : List Nat} (h : PlM w xq L X vx ls R wr) (hs : ∀ j ∈ R', j ∈ R) : PlM w xq L X vx ls R' wr :=
  ⟨h.ref, h.keys, h.new, h.lt, fun j hj => h.sep j (hs j hj), h.below⟩
structure PlBx (w : World) (xq : Nat) (B : List Ky) (seq : Int) (ps : List Po) (ov : Value) (ol : List RecV) (mb : Nat) (k : Nat) (wr : World) (X : List Nat) (vx : Value) (ls : List Sr) (ev : Value) (s : List Ky × List En) : Prop where
  m : PlM w xq s.1 X vx ls (mb :: (ownL ov ++ ownL ev)) wr
  at_ : ManyAt seq B ps k s
  blk : wr.heap[mb]? = some (.cells #[.int .i64 2, .int .u32 0, .slice none 0 0, ev] 45 (0, 0))
  ents : wr.ownsRow w.heap.size 100 4 ev s.2.length (s.2.flatMap En.enc)
  out : wr.ownsRow w.heap.size 45 4 ov ol.length (ol.flatMap RecV.enc)
  ne : mb ∉ ownL ov ∧ mb ∉ ownL ev ∧ ∀ j ∈ ownL ov, j ∉ ownL ev
structure PlB (w : World) (xq : Nat) (B : List Ky) (seq : Int) (ps : List Po) (ov : Value) (ol : List RecV) (mb : Nat) (k : Nat) (wr : World) : Prop where
  ex : ∃ X vx ls ev s, PlBx w xq B seq ps ov ol mb k wr X vx ls ev s
theorem PlBx.then {w wr w2 : World} {xq : Nat} {B : List Ky} {seq : Int} {ps : List Po} {ov : Value} {ol : List RecV} {mb k : Nat} {X : List Nat} {vx : Value} {ls : List Sr} {ev : Value} {s : List Ky × List En} (h : PlBx w xq B seq ps ov ol mb k wr X vx ls ev s) (hb : Below wr.heap.size wr w2) : PlBx w xq B seq ps ov ol mb k w2 X vx ls ev s :=
  ⟨h.m.then hb, h.at_, blk_below h.blk hb, own_below h.ents hb, own_below h.out hb, h.ne⟩
theorem plb_start {w wr : World} {xq : Nat} {B : List Ky} {seq : Int} {ps : List Po} {ov : Value} {ol : List RecV} {X : List Nat} {vx : Value} {ls : List Sr} (h : PlM w xq B X vx ls (ownL ov) wr) (ho : wr.ownsRow w.heap.size 45 4 ov ol.length (ol.flatMap RecV.enc)) (hr : RK B) (hl : ∀ p ∈ ps, hasLab B p.lab = true) :
    PlB w xq B seq ps ov ol wr.heap.size 0 (wr.alloc (.cells #[.int .i64 2, .int .u32 0, .slice none 0 0, .slice none 0 0] 45)) := by
  have hb : Below wr.heap.size wr (wr.alloc (.cells #[.int .i64 2, .int .u32 0, .slice none 0 0, .slice none 0 0] 45)) := balloc (Below.refl _ _) _
  have hlt := fun j hj => (ownsRow_blk ho j (ownL_mem.1 hj)).2
  have h2 := h.more (N := [wr.heap.size]) (below_apart hb _) (fun k hk => by simp at hk; subst hk; exact ⟨Nat.le_refl _, by simp⟩)
  refine ⟨_, vx, ls, .slice none 0 0, (B, []), h2.sub (fun j hj => ?_), ⟨rfl, hr, hl, rfl, Nat.le_refl _⟩, blk_new _ _, World.ownsRow_nil _ _ _ _, own_below ho hb, fun hm => by have := hlt _ hm; omega, fun hm => by simp [ownL, Value.ownBlock] at hm, fun j _ hm => by simp [ownL, Value.ownBlock] at hm⟩
  rcases List.mem_cons.1 hj with rfl | hj
  · exact List.mem_append_right _ (by simp)
  · rcases List.mem_append.1 hj with hj | hj
    · exact List.mem_append_left _ hj
    · simp [ownL, Value.ownBlock] at hj
/-- the cells of a series' row -/
theorem row_cells {w : World} {X : List Nat} {xp i : Nat} {vx : Value} {ls : List Sr} (h : RfAt w X xp vx ls) (hi : i < ls.length) :
    ∃ g c, vx = .slice (some ⟨g, 0, none⟩) ls.length c ∧ g ≠ xp ∧ w.cell? ⟨g, i * 3, none⟩ = some (.int .u32 ls[i].ref) ∧ w.cell? ⟨g, i * 3 + 2, none⟩ = some ls[i].pv ∧ ∀ w3, Below w.heap.size w w3 → w3.frozen? ⟨g, i * 3 + 2, none⟩ = false := by
  obtain ⟨B5, ho⟩ := h.own
  have f0 := flat_get sr_len ls i 0 hi (by omega)
  have f2 := flat_get sr_len ls i 2 hi (by omega)
  obtain ⟨g, cap, eg, -, -⟩ := ho.form (by omega)
  subst eg
  refine ⟨g, cap, rfl, (h.blk g rfl).2, ?_, ?_, fun w3 hb => (own_below ho hb).frozenAt (i * 3 + 2)⟩
  · have := ho.cellAt (i * 3) (by omega)
    rw [this]; exact f0
  · rw [ho.cellAt (i * 3 + 2) (by omega), f2]; rfl
/-- the points of a series of the copy turn -/
theorem plm_put {w w3 : World} {xq g n c i : Nat} {L : List Ky} {X : List Nat} {ls : List Sr} {R : List Nat} {u : Value} {x : En} {hi : i < ls.length} (h : PlM w xq L X (.slice (some ⟨g, 0, none⟩) n c) ls R w3) (hr : RiseK L) {B0 : Nat} (hX : ∀ k ∈ X, k < B0) (hu : SlP w3 (fun k => B0 ≤ k) u (putF (ls[i]'hi).pts x.p).1) (hx : (ls[i]'hi).ref = x.ref) :
    PlM w xq (putK L x) X (.slice (some ⟨g, 0, none⟩) n c) (ls.set i ⟨(ls[i]'hi).ref, (ls[i]'hi).lv, (ls[i]'hi).lab, u, (putF (ls[i]'hi).pts x.p).1⟩) R (w3.setCell ⟨g, i * 3 + 2, none⟩ u) := by
  refine ⟨row_put h.ref hX hu hi, ?_, h.new, fun y hy => by simpa [World.setCell] using h.lt y hy, h.sep, ?_⟩
  · rw [← h.keys]
    exact set_key (by rw [h.keys]; exact hr) hi hx u
  · exact h.below.setCell (h.new g (h.ref.blk g rfl).1) _
theorem plb_next {w W3 U w5 : World} {xq : Nat} {B : List Ky} {seq : Int} {ps : List Po} {ov : Value} {ol : List RecV} {mb k : Nat} {X : List Nat} {vx : Value} {ls : List Sr} {ev v5 : Value} {L' : List Ky} {es : List En} {x : En} (h : PlM w xq L' X vx ls (mb :: (ownL ov ++ ownL ev)) W3)
    (hblk : W3.heap[mb]? = some (.cells #[.int .i64 2, .int .u32 0, .slice none 0 0, ev] 45 (0, 0))) (hout : W3.ownsRow w.heap.size 45 4 ov ol.length (ol.flatMap RecV.enc)) (hents : W3.ownsRow w.heap.size 100 4 ev es.length (es.flatMap En.enc)) (hne : mb ∉ ownL ov ∧ mb ∉ ownL ev ∧ ∀ j ∈ ownL ov, j ∉ ownL ev)
    (hU : Below W3.heap.size W3 U) (ho5 : w5.ownsRow w.heap.size 100 4 v5 (es.length + 1) (es.flatMap En.enc ++ x.enc)) (hg : U.grownBy w5 ev.ownBlock) (hv : v5.ownBlock = ev.ownBlock ∨ v5.ownBlock = some U.heap.size) (hat : ManyAt seq B ps (k + 1) (L', es ++ [x])) :
    PlB w xq B seq ps ov ol mb (k + 1) (w5.setCell ⟨mb, 3, none⟩ v5) := by
  have hA : Apart (fun k => k ∈ ownL ev) U w5 := (Apart.refl _ U).grown hg (fun k hk => .inl (ownL_mem.2 hk))
  have hmU : mb < U.heap.size := Nat.lt_of_lt_of_le (Array.getElem?_eq_some_iff.1 hblk).1 hU.size
  have hb5 : w5.heap[mb]? = some (.cells #[.int .i64 2, .int .u32 0, .slice none 0 0, ev] 45 (0, 0)) := (hA.block mb hmU hne.2.1).trans (blk_below hblk hU)
  have houtU := own_below hout hU
  have hout5 := ownsRow_move houtU (fun j hj => hA.block j (ownsRow_blk houtU j hj).2 (hne.2.2 j (ownL_mem.2 hj)))
  have hentB := fun j hj => ownsRow_blk hents j (ownL_mem.1 hj)
  have hsetA : Apart (fun k => k = mb) w5 (w5.setCell ⟨mb, 3, none⟩ v5) := Apart.setC (P := fun k => k = mb) (Apart.refl _ w5) ⟨mb, 3, none⟩ (.inl rfl) v5
  have hkeep : ∀ j, j ≠ mb → (w5.setCell ⟨mb, 3, none⟩ v5).heap[j]? = w5.heap[j]? := fun j hj => Below.heap_setCell _ _ _ _ hj
  have hn5 : mb ∉ ownL v5 ∧ ∀ j ∈ ownL ov, j ∉ ownL v5 := by
    rcases hv with hv | hv
    · have e : ownL v5 = ownL ev := by unfold ownL; rw [hv]
      rw [e]; exact ⟨hne.2.1, hne.2.2⟩
    · have e : ownL v5 = [U.heap.size] := by unfold ownL; rw [hv]
      rw [e]
      refine ⟨fun hm => by simp at hm; omega, fun j hj hm => ?_⟩
      simp at hm
      have := (ownsRow_blk houtU j (ownL_mem.1 hj)).2
      omega
  have hfin : ∀ {X' : List Nat}, PlM w xq L' X' vx ls (mb :: (ownL ov ++ ownL v5)) w5 → PlB w xq B seq ps ov ol mb (k + 1) (w5.setCell ⟨mb, 3, none⟩ v5) := fun {X'} hm =>
    ⟨X', vx, ls, v5, (L', es ++ [x]), hm.other hsetA (fun k hk => by rw [hk]; exact List.mem_cons_self ..), hat, setCell_blk (i := 3) v5 hb5,
      ownsRow_move (by simpa using ho5) (fun j hj => hkeep j (fun e => hn5.1 (e ▸ ownL_mem.2 hj))), ownsRow_move hout5 (fun j hj => hkeep j (fun e => hne.1 (e ▸ ownL_mem.2 hj))), hne.1, hn5.1, hn5.2⟩
  rcases hv with hv | hv
  · have e : ownL v5 = ownL ev := by unfold ownL; rw [hv]
    exact hfin (by rw [e]; exact (h.then hU).other hA (fun k hk => List.mem_cons_of_mem _ (List.mem_append_right _ hk)))
  · have e : ownL v5 = [U.heap.size] := by unfold ownL; rw [hv]
    have hlt := (ownsRow_blk ho5 _ hv).2
    have h6 := (h.then hU).more (N := [U.heap.size]) (hA.mono (fun k _ hk => List.mem_cons_of_mem _ (List.mem_append_right _ hk))) (fun k hk => by simp at hk; subst hk; exact ⟨Nat.le_refl _, hlt⟩)
    refine hfin (h6.sub (fun j hj => ?_))
    rw [e] at hj
    rcases List.mem_cons.1 hj with rfl | hj
    · exact List.mem_append_left _ (List.mem_cons_self ..)
    · rcases List.mem_append.1 hj with hj | hj
      · exact List.mem_append_left _ (List.mem_cons_of_mem _ (List.mem_append_left _ hj))
      · exact List.mem_append_right _ hj
/-- behind the loops: the copy, and the records -/
structure PlR (w : World) (xq : Nat) (s : List Ky × List En) (born : List Rec) (ov : Value) (wx : World) : Prop where
  ex : ∃ X vx ls ol, RfAt wx X xq vx ls ∧ ls.map Sr.key = s.1 ∧ Slc 4 RecV.enc wx (fun _ => True) ov ol ∧ RecOk wx (fun _ => True) ol ∧ ol.map RecV.r = recsOf born s.2
  below : Below w.heap.size w wx
theorem plr_none {w wr : World} {xq : Nat} {B : List Ky} {seq : Int} {ps : List Po} {ov : Value} {ol : List RecV} {mb k : Nat} {X : List Nat} {vx : Value} {ls : List Sr} {ev : Value} {s : List Ky × List En} {born : List Rec} (h : PlBx w xq B seq ps ov ol mb k wr X vx ls ev s) (hok : RecOk w (fun _ => True) ol) (hr : ol.map RecV.r = born) (he : s.2 = []) : PlR w xq s born ov wr :=
  ⟨⟨X, vx, ls, ol, h.m.ref, h.m.keys, (own_slc recV_len rfl h.out).mono (fun _ _ _ => trivial), RecOk.move hok h.m.below.size (fun k hk _ => h.m.below.block k hk), by unfold recsOf; rw [if_pos he]; exact hr⟩, h.m.below⟩
theorem plr_more {w wr U w6 : World} {xq : Nat} {B : List Ky} {seq : Int} {ps : List Po} {ov v6 : Value} {ol : List RecV} {mb k : Nat} {X : List Nat} {vx : Value} {ls : List Sr} {ev : Value} {s : List Ky × List En} {born : List Rec} (h : PlBx w xq B seq ps ov ol mb k wr X vx ls ev s) (hok : RecOk w (fun _ => True) ol) (hr : ol.map RecV.r = born) (he : s.2 ≠ []) (hU : Below wr.heap.size wr U)
    (ho6 : w6.ownsRow w.heap.size 45 4 v6 (ol.length + 1) (ol.flatMap RecV.enc ++ [.int .i64 2, .int .u32 0, .slice none 0 0, ev])) (hg : U.grownBy w6 ov.ownBlock) : PlR w xq s born v6 w6 := by
  have hA : Apart (fun k => k ∈ ownL ov) U w6 := (Apart.refl _ U).grown hg (fun k hk => .inl (ownL_mem.2 hk))
  have h2 := h.then hU
  have h6 := h2.m.other hA (fun k hk => List.mem_cons_of_mem _ (List.mem_append_left _ hk))
  have hents := ownsRow_move h2.ents (fun j hj => hA.block j (ownsRow_blk h2.ents j hj).2 (fun hm => h.ne.2.2 j hm (ownL_mem.2 hj)))
  refine ⟨⟨X, vx, ls, ol ++ [⟨⟨2, 0, [], s.2⟩, .slice none 0 0, ev⟩], h6.ref, h6.keys, (own_slc recV_len (n := ol.length + 1) (by simp) (by simpa [RecV.enc] using ho6)).mono (fun _ _ _ => trivial), fun y hy => ?_, ?_⟩, h6.below⟩
  · rcases List.mem_append.1 hy with hy | hy
    · exact RecOk.move hok h6.below.size (fun k hk _ => h6.below.block k hk) y hy
    · simp at hy; subst hy
      exact ⟨Slc.nil _ _ _ _, (own_slc en_len rfl hents).mono (fun _ _ _ => trivial)⟩
  · unfold recsOf; rw [if_neg he, List.map_append, hr]; rfl
/-- where the third loop stands -/
structure PlC (w7 : World) (f : Po → Mk) (ps : List Po) (k : Nat) (v : Value) (w : World) : Prop where
  own : w.ownsRow w7.heap.size 79 2 v k (((ps.take k).map f).flatMap Mk.enc)
  below : Below w7.heap.size w7 w
theorem PlC.start (w7 : World) (f : Po → Mk) (ps : List Po) : PlC w7 f ps 0 (.slice none 0 0) w7 := ⟨⟨rfl, .inl ⟨rfl, rfl⟩⟩, Below.refl _ _⟩
theorem plc_add (f : Po → Mk) (ps : List Po) (k : Nat) (hk : k < ps.length) : ((ps.take (k + 1)).map f).flatMap Mk.enc = ((ps.take k).map f).flatMap Mk.enc ++ (f ps[k]).enc := by
  rw [List.take_succ_eq_append_getElem hk, List.map_append, List.flatMap_append]
  simp only [List.map_cons, List.map_nil, List.flatMap_cons, List.flatMap_nil, List.append_nil]
theorem wrong_zero {K : List Ky} {seq : Int} {ps : List Po} (h : wrongK K seq ps = 0) : ps.length ≤ 16 ∧ seq ≠ 0 ∧ (∀ p ∈ ps, rightF p.lab = 0) ∧ K.length + freshL K ps ≤ 4096 ∧ maxK K + freshL K ps ≤ 4294967295 := by
  unfold wrongK at h
  by_cases h1 : 16 < ps.length
  · rw [if_pos h1] at h; cases h
  · rw [if_neg h1] at h
    by_cases h2 : seq = 0
    · rw [if_pos h2] at h; cases h
    · rw [if_neg h2] at h
      by_cases h3 : labsErr ps ≠ 0
      · rw [if_pos h3] at h; exact (h3 h).elim
      · rw [if_neg h3] at h
        by_cases h4 : ps.any (fullK K ps) = true ∨ 4096 < K.length + freshL K ps ∨ 4294967295 < maxK K + freshL K ps
        · rw [if_pos h4] at h; cases h
        · have h5 := fun g => h4 (.inr (.inl g))
          have h6 := fun g => h4 (.inr (.inr g))
          exact ⟨by omega, h2, fun p hp => labs_ok ps (by simpa using h3) p hp, Nat.not_lt.1 h5, Int.not_lt.1 h6⟩
def RPlanPost (w : World) (r : List Rec × List Mk × Int) (e : Ending) (w' : World) : Prop :=
  ∃ ov mv ol, e = .returned (.tuple #[ov, mv, .int .i64 r.2.2]) ∧ Slc 4 RecV.enc w' (fun _ => True) ov ol ∧ RecOk w' (fun _ => True) ol ∧ ol.map RecV.r = r.1 ∧ Slc 2 Mk.enc w' (fun _ => True) mv r.2.1 ∧ Below w.heap.size w w'
set_option maxRecDepth 100000 in
set_option maxHeartbeats 40000000 in
theorem ref14_plan {D D' D2 : Nat → Prop} (xp : Nat) (v pv : Value) (l : List Sr) (seq : Int) (ps : List Po) (w : World) (hc : w.cell? ⟨xp, 0, none⟩ = some v) (hv : Slc 3 Sr.enc w D v l) (hl : SrOk w D' l) (hpv : Slc 4 Po.enc w D2 pv ps) (hpo : PoOk w D2 ps) (hn : l.length ≤ 4096) (hrk : RK (l.map Sr.key)) (hpos : ∀ x ∈ l.map Sr.key, 0 < x.1) (hu : ∀ x ∈ l, U32 x.ref) (hlab : ∀ x ∈ l, x.lab.length ≤ 1000000) :
    Calls Tryz.prog 12 #[.pointer (some ⟨xp, 0, none⟩), .int .u64 seq, pv] w (RPlanPost w (planK (l.map Sr.key) seq ps)) := by
  have h65 : ∀ x ∈ l, x.pts.length ≤ 65536 := fun x hx => (rightP_rising (hrk.right x.key (List.mem_map_of_mem hx))).2
  have hwr := ref14_wrong xp v pv l seq ps w hc hv hl hpv hpo hn h65 hu
  have hcl := fun (W : World) (hW : Below w.heap.size w W) => ref14_clone xp v l W (later hW hc) (hv.below hW) (hl.below hW) (by omega) (fun x hx => ⟨hlab x hx, by have := h65 x hx; omega⟩)
  have HWr := Lib.hid hwr
  have HCl := Lib.hid hcl
  have HPv := Lib.hid hpv
  have HPo := Lib.hid hpo
  obtain ⟨A1, c1, rfl, q1, q2, q3, q4, q5⟩ := hpv
  have HRp := Lib.hid q5
  have hm9 : ps.length ≤ 9223372036854775807 := by simp only [maxLen] at q2; omega
  have hKl : (l.map Sr.key).length ≤ 4096 := by rw [List.length_map]; exact hn
  obtain ⟨K, hK⟩ : ∃ K, K = l.map Sr.key := ⟨_, rfl⟩
  rw [← hK] at HWr HCl hrk hpos hKl ⊢
  obtain ⟨m, hmm⟩ : ∃ m, m = ps.length := ⟨_, rfl⟩
  have Hm := Lib.hid hmm
  rw [← hmm] at HWr hm9 ⊢
  have HRk := Lib.hid hrk
  have HPos := Lib.hid hpos
  clear hwr hcl hpo hc hv hl hn h65 hu hlab q1 q2 q3 q4 q5 hrk hpos hK
  by_cases h0 : wrongK K seq ps = 0
  · obtain ⟨m16, hs0, hlabs, hroom, htop⟩ := wrong_zero h0
    rw [h0] at HWr
    have HPk : Hid (planK K seq ps = (recsOf (bornAll K (ps.map Po.lab)).2 (ps.foldl (manyStep seq) ((bornAll K (ps.map Po.lab)).1, [])).2, ps.map (markK (ps.foldl (manyStep seq) ((bornAll K (ps.map Po.lab)).1, [])).1), 0)) := Lib.hid (by unfold planK; rw [if_neg (by simp [h0])])
    generalize planK K seq ps = res at *
    have HLabs := Lib.hid hlabs
    have HS0 := Lib.hid hs0
    have Hroom := Lib.hid hroom
    have Htop := Lib.hid htop
    rw [← hmm] at m16
    have Hm16 := Lib.hid m16
    clear h0 hs0 hlabs hroom htop hmm
    go_enter Tryz.func12, Tryz.ntmps12
    go_wp2_with fail
    refine HWr.out.mono ?_
    rintro e w1 ⟨rfl, hb1⟩
    have HB1 := Lib.hid hb1
    clear hb1
    go_wp2_with fail
    refine (HCl.out _ HB1.out).mono ?_
    rintro e w2 ⟨xq, v2, l2, rfl, hR2, hK2⟩
    have hR2' : RNew w xq v2 l2 w2 := ⟨hR2.hc, own_base hR2.own HB1.out.size, SrOk.mono hR2.ok (fun k hk hD => ⟨⟨Nat.le_trans HB1.out.size hD.1.1, hD.1.2⟩, hD.2⟩), hR2.ne, bthen HB1.out hR2.below, Nat.le_trans HB1.out.size hR2.xp⟩
    have hA0 := PlA.start (ps := ps) hR2' (by rw [hK2]; exact HRk.out) (by rw [hK2]; exact HPos.out)
    rw [hK2] at hA0
    have HA0 := Lib.hid hA0
    clear hR2 hR2' hA0 hK2
    go_wp2_with fail
    go_loopw [11, 43] (fun ov i wr => ∃ k : Nat, k ≤ m ∧ i = .int .i64 k ∧ PlA w xq K ps k ov wr) (fun _ i _ => m - (intOf i).toNat)
    case atStart => exact ⟨0, Nat.zero_le _, rfl, HA0.out⟩
    case round =>
      obtain ⟨k, hk, rfl, hE⟩ := hrel
      obtain ⟨X, vx, ls, ol, b, hM, hr, hb, ho, hok⟩ := hE.ex
      have HM := Lib.hid hM
      have HO := Lib.hid ho
      have HB := Lib.hid hb
      have HRr := Lib.hid hr
      have HOk := Lib.hid hok
      obtain ⟨Ao, co, rfl⟩ := own_slice ho
      have cx := blk_cell hM.ref.hc 0
      simp at cx
      by_cases hlt : k < m
      ·
        /-A-/
        have hkl : k < ps.length := by rw [← Hm.out]; exact hlt
        obtain ⟨bb, off, e9, z0, z1, z2, z3⟩ := rdO_at (Rd.below HRp.out hM.below) hkl
        cases e9
        have hx := HPo.out _ (List.getElem_mem hkl)
        have hlz := HLabs.out _ (List.getElem_mem hkl)
        have hsm := fun hl => hb.same hkl hl
        have hmo := fun hl => hb.more hkl hl
        generalize ps[k] = z at *
        obtain ⟨zat, zv, lab, zT, zV⟩ := z
        simp only at z0 z1 z2 z3 hx hlz hsm hmo
        have HLz := Lib.hid hx.1
        have HSz := Lib.hid hx.2
        obtain ⟨⟨A4, c4, rfl, -⟩, -⟩ := hx
        have HBw : Hid (Below wr.heap.size wr (wr.alloc (.cells #[.int .i64 zat, .slice A4 lab.length c4, .int .i64 zT, .int .u64 zV] 77))) := Lib.hid (balloc (Below.refl _ _) _)
        have hMw := hM.then HBw.out
        have hcall := ref14_at xq vx (.slice A4 lab.length c4) ls lab _ (later HBw.out cx) hMw.ref.slc hMw.ref.ok (HLz.out.below hMw.below)
        have v1 : (wr.alloc (.cells #[.int .i64 zat, .slice A4 lab.length c4, .int .i64 zT, .int .u64 zV] 77)).cell? ⟨wr.heap.size, 1, none⟩ = some (.slice A4 lab.length c4) := by simp
        have hkf := find_idx (l := ls) (lab := lab)
        rw [hM.keys] at hkf
        have HMw := Lib.hid hMw
        have CXw := Lib.hid (later HBw.out cx)
        have V1 := Lib.hid v1
        generalize hn4 : lab.length = n4 at *
        have Hn4 := Lib.hid hn4
        clear hM hr hb ho hok cx hMw v1 hn4 hE
        rcases hkf with ⟨f1, f2⟩ | ⟨i, hi, f1, f2⟩
        · have hhl : hasLab b.1 lab = false := by rw [has_key, f2]; rfl
          rw [f1] at hcall
          have HCall := Lib.hid hcall
          obtain ⟨hnx, hbl, hbm⟩ := hmo hhl
          have Hnx := Lib.hid hnx
          have Hbl := Lib.hid hbl
          have Hbm := Lib.hid hbm
          have Hhl := Lib.hid hhl
          clear hcall f1 f2 hhl hsm hmo hnx hbl hbm
          go_wp2_with fail
          refine HCall.out.mono ?_
          rintro e w3 ⟨rfl, hb3⟩
          have HM3 := Lib.hid (HMw.out.then hb3)
          have hb34 := Lib.hid hb3
          have cx3 := later hb3 CXw.out
          have V3 := Lib.hid (later hb3 V1.out)
          simp only [ixF]
          clear hb3 z0 z1 z2 z3
          have hslc := HM3.out.ref.slc
          have hok3 := HM3.out.ref.ok
          have hk3 := HM3.out.keys
          have hmx := (max_le (K := b.1)).1
          have hnm := next_max b.1
          obtain ⟨A8, c8, rfl, s1, s2, -, -, s5⟩ := hslc
          have HRs := Lib.hid s5
          have HOk3 := Lib.hid hok3
          have hn89 : ls.length ≤ 9223372036854775807 := by simp only [maxLen] at s2; omega
          have href : ∀ x ∈ ls, x.ref + 1 ≤ nextK b.1 ∧ 0 < x.ref := fun x hx => by
            have h1 : x.key ∈ b.1 := by rw [← hk3]; exact List.mem_map_of_mem hx
            have h2 := hmx _ h1
            have h3 := HB.out.pos _ h1
            have h4 : x.key.1 = x.ref := rfl
            omega
          have HRef := Lib.hid href
          obtain ⟨n8, hn8⟩ : ∃ n8, n8 = ls.length := ⟨_, rfl⟩
          have Hn8 := Lib.hid hn8
          rw [← hn8] at cx3 hn89
          clear hok3 hk3 hmx hnm s1 s2 s5 href hn8
          go_wp2_with fail
          generalize hw3 : w3 = wb at *
          clear hw3
          go_loopw [14, 57] (fun s x wr => ∃ j : Nat, j ≤ n8 ∧ x = .int .i64 j ∧ s = .int .u32 (nextK ((ls.take j).map Sr.key)) ∧ Below wb.heap.size wb wr) (fun _ x _ => n8 - (intOf x).toNat)
          case atStart => exact ⟨0, Nat.zero_le _, rfl, rfl, Below.refl _ _⟩
          case round =>
            obtain ⟨j, hj, rfl, rfl, hB4⟩ := hrel
            have HB4 := Lib.hid hB4
            by_cases hjt : j < n8
            · have hjl : j < ls.length := by rw [← Hn8.out]; exact hjt
              obtain ⟨b2, off2, e9, y0, y1, y2⟩ := rdSr_at (Rd.below HRs.out hB4) hjl
              cases e9
              have hy := HOk3.out _ (List.getElem_mem hjl)
              have hyr := HRef.out _ (List.getElem_mem hjl)
              have hnt := next_take ls j hjl
              generalize ls[j] = y at *
              obtain ⟨yr, ylv, ylab, ypv, ypts⟩ := y
              simp only at y0 y1 y2 hy hyr hnt
              obtain ⟨⟨A6, c6, rfl, -⟩, ⟨A7, c7, rfl, -⟩⟩ := hy
              generalize ylab.length = n6 at *
              generalize ypts.length = n7 at *
              have HBu : Hid (Below wr.heap.size wr (wr.alloc (.cells #[.int .u32 yr, .slice A6 n6 c6, .slice A7 n7 c7] 66))) := Lib.hid (balloc (Below.refl _ _) _)
              have hw : IntKind.u32.wrap (yr + 1) = yr + 1 := u32_wrap (by omega) (by have := Hnx.out; have := Htop.out; omega)
              have HNt := Lib.hid hnt
              clear hB4 hnt hyr cx3
              generalize nextK ((ls.take j).map Sr.key) = nj at *
              go_wp2_with fail
              go_roundw
              case rel => exact ⟨j + 1, by omega, by go_num, by rw [HNt.out], bthen HB4.out HBu.out⟩
              case measure => simp [intOf] <;> omega
            · have hkk : ls.take j = ls := List.take_of_length_le (by rw [← Hn8.out]; omega)
              rw [hkk, HM3.out.keys] at *
              have hM4 := HM3.out.then hB4
              have HM4 := Lib.hid hM4
              have v4 := later hB4 V3.out
              have HBo := Lib.hid (bthen HBw.out (bthen hb34.out hB4))
              generalize hnx : nextK b.1 = nx at *
              have HBv : Hid (Below wr.heap.size wr (wr.alloc (.cells #[.int .i64 1, .int .u32 nx, .slice A4 n4 c4, .slice none 0 0] 45))) := Lib.hid (balloc (Below.refl _ _) _)
              have hM5 := HM4.out.then HBv.out
              have hbl := HB.out
              have hrn := rec_new Hhl.out hlz (by have := Hbl.out; have := Hroom.out; omega)
              rw [hnx] at hrn
              have hrc := ref14_record (X := X) ⟨1, nx, lab, []⟩ (.slice A4 n4 c4) (.slice none 0 0) _ hM5.ref hM5.lt (by
                have h9 := congrArg List.length hM5.keys
                rw [List.length_map] at h9
                have := Hbl.out; have := Hroom.out
                omega) (by rw [hM5.keys]; exact hbl.rk) (pl_old HLz.out hM5.below hM5.new) (Slc.nil _ _ _ _) HSz.out
              rw [hM5.keys, hrn] at hrc
              unfold RTurnPost at hrc
              have HRc := Lib.hid hrc
              have r0 : (wr.alloc (.cells #[.int .i64 1, .int .u32 nx, .slice A4 n4 c4, .slice none 0 0] 45)).cell? ⟨wr.heap.size, 0, none⟩ = some (.int .i64 1) := by simp
              have r1 : (wr.alloc (.cells #[.int .i64 1, .int .u32 nx, .slice A4 n4 c4, .slice none 0 0] 45)).cell? ⟨wr.heap.size, 1, none⟩ = some (.int .u32 nx) := by simp
              have r2 : (wr.alloc (.cells #[.int .i64 1, .int .u32 nx, .slice A4 n4 c4, .slice none 0 0] 45)).cell? ⟨wr.heap.size, 2, none⟩ = some (.slice A4 n4 c4) := by simp
              have r3 : (wr.alloc (.cells #[.int .i64 1, .int .u32 nx, .slice A4 n4 c4, .slice none 0 0] 45)).cell? ⟨wr.heap.size, 3, none⟩ = some (.slice none 0 0) := by simp
              have M0 : Hid (¬ blksR xq (.slice A8 ls.length c8) wr.heap.size) := Lib.hid (fun hm => by have := HM4.out.lt _ (HM4.out.ref.sub _ hm); omega)
              have HM5 := Lib.hid hM5
              have HO5 := Lib.hid (own_below HO.out (bthen HBo.out HBv.out))
              have Hnx0 := Lib.hid hnx
              have Hol : Hid (ol.length ≤ 100000) := Lib.hid (by
                have h9 := congrArg List.length HRr.out
                rw [List.length_map] at h9
                have h10 := congrArg Prod.snd HB.out.eq
                rw [h10, fresh_len] at h9
                have h11 := fresh_le K ps k
                omega)
              clear hkk hM4 hM5 hbl hrn hrc hB4 hlz cx3 hnx
              go_wp2_with fail
              refine HRc.out.mono ?_
              rintro e w5 ⟨rfl, X', vx', ht⟩
              have HT := Lib.hid ht
              have t0 := ht.apart.cell M0.out r0
              have t1 := ht.apart.cell M0.out r1
              have t2 := ht.apart.cell M0.out r2
              have t3 := ht.apart.cell M0.out r3
              have HBU : Hid (Below w5.heap.size w5 (w5.alloc (.cells #[.int .i64 1, .int .u32 nx, .slice A4 n4 c4, .slice none 0 0] 45))) := Lib.hid (balloc (Below.refl _ _) _)
              have HOU := Lib.hid (own_below (ownsRow_move HO5.out (fun j hj => ht.apart.block j (ownsRow_blk HO5.out j hj).2 (HM5.out.sep j (ownL_mem.2 hj)).2)) HBU.out)
              have HBUw : Hid (w.heap.size ≤ (w5.alloc (.cells #[.int .i64 1, .int .u32 nx, .slice A4 n4 c4, .slice none 0 0] 45)).heap.size) := Lib.hid (Nat.le_trans HM5.out.below.size (Nat.le_trans ht.apart.size HBU.out.size))
              clear ht r0 r1 r2 r3
              have hol := Hol.out
              go_wp2_with (at_builtin; refine wpList_app (w0 := w5.alloc (.cells #[.int .i64 1, .int .u32 nx, .slice A4 n4 c4, .slice none 0 0] 45)) w.heap.size rfl _ _ 32 45 _ 4 64 1 [.int .i64 1, .int .u32 nx, .slice A4 n4 c4, .slice none 0 0] rfl Tryz.underlying32 info_rec rfl (by decide) (by decide) (.slice Ao ol.length co) ol.length (ol.flatMap RecV.enc) ?hs ?hx HOU.out (Below.refl _ _) HBUw.out (by omega) ?_)
              case hs => rfl
              case hx => exact src_block (m := 1) (size := 4) (cs := #[.int .i64 1, .int .u32 nx, .slice A4 n4 c4, .slice none 0 0]) (blk_new _ _) rfl (fun u hu => by simp at hu; rcases hu with rfl | rfl | rfl | rfl <;> rfl) 1
              intro v6 w6 hO6 hB6 hg6 hat6
              have hat6' := (show _ ∨ _ from hat6)
              have hb1 := Hbm.out
              have HNext := Lib.hid (pla_next (x := ⟨⟨1, nx, lab, []⟩, .slice A4 n4 c4, .slice none 0 0⟩) HM5.out HO5.out HRr.out HOk.out HT.out HBU.out ⟨HLz.out.mono (fun _ _ _ => trivial), Slc.nil _ _ _ _⟩ hb1 hO6 hg6 (by simpa using hat6'))
              obtain ⟨A6, c6, rfl⟩ := own_slice hO6
              clear hO6 hB6 hg6 hat6 hat6' hb1 t0 t1 t2 t3
              go_wp2_with fail
              go_roundw
              case rel => exact ⟨k + 1, by omega, by go_num, HNext.out⟩
              case measure => simp [intOf] <;> omega
        · have hhl : hasLab b.1 lab = true := by rw [has_key, f2]; rfl
          rw [f1] at hcall
          have HCall := Lib.hid hcall
          have Hsm := Lib.hid (hsm hhl)
          clear hcall f1 f2 hhl hsm hmo hi
          go_wp2_with fail
          refine HCall.out.mono ?_
          rintro e w3 ⟨rfl, hb3⟩
          have HNext : Hid (PlA w xq K ps (k + 1) (.slice Ao ol.length co) w3) := Lib.hid ⟨X, vx, ls, ol, b, HMw.out.then hb3, HRr.out, Hsm.out, own_below HO.out (bthen HBw.out hb3), HOk.out⟩
          simp only [ixF]
          clear hb3
          go_wp2_with fail
          go_roundw
          case rel => exact ⟨k + 1, by omega, by go_num, HNext.out⟩
          case measure => simp [intOf] <;> omega
        /-A.-/
      · have hkm : ps.take k = ps := List.take_of_length_le (by rw [← Hm.out]; omega)
        have hbe := hb.eq
        rw [hkm] at hbe
        have hpk := HPk.out
        rw [← hbe] at hpk
        have HPk2 := Lib.hid hpk
        have HP0 := Lib.hid (plb_start (seq := seq) (ps := ps) hM ho hb.rk (fun p hp => by rw [hbe]; exact born_has _ _ _ (.inl (List.mem_map_of_mem hp))))
        have Hol : Hid (ol.length ≤ 100000) := Lib.hid (by
          have h9 := congrArg List.length HRr.out
          rw [List.length_map] at h9
          have h10 := congrArg Prod.snd HB.out.eq
          rw [h10, fresh_len] at h9
          have h11 := fresh_le K ps k
          omega)
        clear hkm hbe hpk hM hr hb ho hok cx hE HPk
        go_wp2_with fail
        generalize wr.alloc (.cells #[.int .i64 2, .int .u32 0, .slice none 0 0, .slice none 0 0] 45) = wb at *
        generalize wr.heap.size = mb at *
        go_loopw [82] (fun i wr => ∃ k : Nat, k ≤ m ∧ i = .int .i64 k ∧ PlB w xq b.1 seq ps (.slice Ao ol.length co) ol mb k wr) (fun i _ => m - (intOf i).toNat)
        case atStart => exact ⟨0, Nat.zero_le _, rfl, HP0.out⟩
        case round =>
          obtain ⟨k, hk, rfl, hE⟩ := hrel
          obtain ⟨X2, vx2, ls2, ev, s, hx⟩ := hE.ex
          have HX := Lib.hid hx
          by_cases hlt : k < m
          ·
            /-B-/
            have hkl : k < ps.length := by rw [← Hm.out]; exact hlt
            obtain ⟨bb, off, e9, z0, z1, z2, z3⟩ := rdO_at (Rd.below HRp.out hx.m.below) hkl
            cases e9
            have hpo := HPo.out _ (List.getElem_mem hkl)
            have hlz := HLabs.out _ (List.getElem_mem hkl)
            have hlab := hx.at_.labs _ (List.getElem_mem hkl)
            have hstep := hx.at_.step hkl
            have hkf := find_idx (l := ls2) (lab := ps[k].lab)
            rw [hx.m.keys] at hkf
            rcases hkf with ⟨f1, f2⟩ | ⟨i, hi, f1, f2⟩
            · rw [has_key, f2] at hlab; cases hlab
            · have hms : manyStep seq s ps[k] = if (putF ls2[i].pts (ptOf seq ps[k])).1 = ls2[i].pts then s else (putK s.1 ⟨ls2[i].ref, ptOf seq ps[k]⟩, s.2 ++ [⟨ls2[i].ref, ptOf seq ps[k]⟩]) := by unfold manyStep; rw [f2]; rfl
              rw [hms] at hstep
              have hrp5 : rightP ls2[i].pts = true := hx.at_.rk.right ls2[i].key (by rw [← hx.m.keys]; exact List.mem_map_of_mem (List.getElem_mem hi))
              obtain ⟨g, c8, eg, hgx, r0, r2, hfz⟩ := row_cells hx.m.ref hi
              subst eg
              have hcx := blk_cell hx.m.ref.hc 0
              simp at hcx
              obtain ⟨-, hspv⟩ := hx.m.ref.ok _ (List.getElem_mem hi)
              obtain ⟨A5, c5, e5, -⟩ := id hspv
              rw [e5] at r2 hspv
              have hput := fun (W : World) (hW : Below wr.heap.size wr W) => ref09_put (.slice A5 ls2[i].pts.length c5) ls2[i].pts (ptOf seq ps[k]) W (hspv.below hW) HS0.out hrp5
              have hpl : ls2[i].pts.length ≤ 9223372036854775807 := by have := (rightP_rising hrp5).2; omega
              have hRd5 : RdP wr A5 ls2[i].pts := by obtain ⟨_, _, e6, -, -, -, -, h⟩ := hspv; cases e6; exact h
              unfold RPut at hput
              have HStep := Lib.hid hstep
              have HFz := Lib.hid hfz
              have HGx := Lib.hid hgx
              have HPl := Lib.hid hpl
              have HRd5 := Lib.hid hRd5
              have HMs := Lib.hid hms
              have hlt9 := HX.out.m.lt
              have HLt := Lib.hid hlt9
              generalize hz : ps[k] = z at *
              obtain ⟨zat, zv, lab, zT, zV⟩ := z
              simp only at z0 z1 z2 z3 hpo hlz f1
              unfold ptOf at hput
              simp only at hput
              have HPut := Lib.hid hput
              have HLz := Lib.hid hpo.1
              obtain ⟨⟨A4, c4, rfl, -⟩, -⟩ := hpo
              have HBw : Hid (Below wr.heap.size wr (wr.alloc (.cells #[.int .i64 zat, .slice A4 lab.length c4, .int .i64 zT, .int .u64 zV] 77))) := Lib.hid (balloc (Below.refl _ _) _)
              have hMw := HX.out.m.then HBw.out
              have hcall := ref14_at xq _ (.slice A4 lab.length c4) ls2 lab _ (later HBw.out hcx) hMw.ref.slc hMw.ref.ok (HLz.out.below hMw.below)
              rw [f1] at hcall
              have HCall := Lib.hid hcall
              have v1 : (wr.alloc (.cells #[.int .i64 zat, .slice A4 lab.length c4, .int .i64 zT, .int .u64 zV] 77)).cell? ⟨wr.heap.size, 1, none⟩ = some (.slice A4 lab.length c4) := by simp
              have v2 : (wr.alloc (.cells #[.int .i64 zat, .slice A4 lab.length c4, .int .i64 zT, .int .u64 zV] 77)).cell? ⟨wr.heap.size, 2, none⟩ = some (.int .i64 zT) := by simp
              have v3 : (wr.alloc (.cells #[.int .i64 zat, .slice A4 lab.length c4, .int .i64 zT, .int .u64 zV] 77)).cell? ⟨wr.heap.size, 3, none⟩ = some (.int .u64 zV) := by simp
              have V2 := Lib.hid v2
              have V3 := Lib.hid v3
              obtain ⟨n8, hn8⟩ : ∃ n8, n8 = ls2.length := ⟨_, rfl⟩
              rw [← hn8] at hcx
              have CX := Lib.hid hcx
              have R2 := Lib.hid r2
              have R0 := Lib.hid r0
              have Hin : Hid ((0 : Int) ≤ (i : Int) ∧ (i : Int) < (n8 : Int)) := Lib.hid ⟨by omega, by omega⟩
              generalize hn5 : ls2[i].pts.length = n5 at *
              have HN8 := Lib.hid hn8
              have HN5 := Lib.hid hn5
              generalize hn4 : lab.length = n4 at *
              clear hx hE hlab hstep hms hrp5 hgx r0 r2 hfz hspv e5 hput hpl hRd5 hlt9 hz hlz hMw hcall v2 v3 hcx hn8 hn5 hn4 f1 f2 hkl
              go_wp2_with fail
              refine HCall.out.mono ?_
              rintro e w3 ⟨rfl, hb3⟩
              simp only [ixF]
              have v2 := later hb3 V2.out
              have v3 := later hb3 V3.out
              have HB3 := Lib.hid (bthen HBw.out hb3)
              clear hb3 z0 z1 z2 z3
              have HBy : Hid (Below w3.heap.size w3 (w3.alloc (.cells #[.int .i64 zT, .int .u64 zV, .int .u64 seq] 68))) := Lib.hid (balloc (Below.refl _ _) _)
              have HB4 := Lib.hid (bthen HB3.out HBy.out)
              have y0 : (w3.alloc (.cells #[.int .i64 zT, .int .u64 zV, .int .u64 seq] 68)).drew.cell? ⟨w3.heap.size, 0, none⟩ = some (.int .i64 zT) := blk_cell (blk_new w3 _) 0
              have y1 : (w3.alloc (.cells #[.int .i64 zT, .int .u64 zV, .int .u64 seq] 68)).drew.cell? ⟨w3.heap.size, 1, none⟩ = some (.int .u64 zV) := blk_cell (blk_new w3 _) 1
              have y2 : (w3.alloc (.cells #[.int .i64 zT, .int .u64 zV, .int .u64 seq] 68)).drew.cell? ⟨w3.heap.size, 2, none⟩ = some (.int .u64 seq) := blk_cell (blk_new w3 _) 2
              have f0 : (w3.alloc (.cells #[.int .i64 zT, .int .u64 zV, .int .u64 seq] 68)).drew.cell? ⟨xq, 0, none⟩ = some (.slice (some ⟨g, 0, none⟩) n8 c8) := later HB4.out CX.out
              have f1 : (w3.alloc (.cells #[.int .i64 zT, .int .u64 zV, .int .u64 seq] 68)).drew.cell? ⟨g, i * 3 + 2, none⟩ = some (.slice A5 n5 c5) := later HB4.out R2.out
              go_wp2_with fail
              generalize w3.alloc (.cells #[.int .i64 zT, .int .u64 zV, .int .u64 seq] 68) = w4 at *
              have hi0 : (0 : Int) ≤ (i : Int) := Hin.out.1
              have hi1 : (i : Int) < (n8 : Int) := Hin.out.2
              have Hyb : Hid (wr.heap.size ≤ w3.heap.size) := Lib.hid HB3.out.size
              generalize w3.heap.size = yb at *
              go_region_held3 (fun w' => w'.cell? ⟨xq, 0, none⟩ = some (.slice (some ⟨g, 0, none⟩) n8 c8) ∧ w'.cell? ⟨g, i * 3 + 2, none⟩ = some (.slice A5 n5 c5) ∧ w'.cell? ⟨yb, 0, none⟩ = some (.int .i64 zT) ∧ w'.cell? ⟨yb, 1, none⟩ = some (.int .u64 zV) ∧ w'.cell? ⟨yb, 2, none⟩ = some (.int .u64 seq)) (first | exact ⟨f0, f1, y0, y1, y2⟩ | exact ⟨later hb' f0, later hb' f1, later hb' y0, later hb' y1, later hb' y2⟩)
                (first | (go_at_call 45; refine (HPut.out _ (bthen HB4.out (bdrew (Below.refl _ _)))).mono ?_; rintro e w' ⟨vn, a9, b9, rfl, hvn, hb'⟩; obtain ⟨An, cn, rfl, -⟩ := id hvn; have HVn := Lib.hid hvn; clear hvn))
              have HB5 := Lib.hid (bthen HB4.out (bthen (bdrew (Below.refl _ _)) hb'))
              have g0 := later hb' f0
              have g1 := later hb' f1
              have u0 := later hb' y0
              have u1 := later hb' y1
              have u2 := later hb' y2
              have HSame : Hid (Calls Tryz.prog 46 #[.slice An (putF ls2[i].pts ⟨zT, zV, seq⟩).1.length cn, .slice A5 n5 c5] w' fun e w6 => e = .returned (.bool (decide ((putF ls2[i].pts ⟨zT, zV, seq⟩).1 = ls2[i].pts))) ∧ Below w'.heap.size w' w6) := Lib.hid (by
                obtain ⟨_, _, e6, p1, p2, -, -, p5⟩ := HVn.out
                cases e6
                have h := ref09_same An A5 cn c5 _ ls2[i].pts w' p5 (Rd.below HRd5.out HB5.out) (by omega) (by rw [HN5.out]; exact HPl.out)
                rw [HN5.out] at h
                exact h)
              clear f0 f1 y0 y1 y2 hb'
              go_wp2_with fail
              refine HSame.out.mono ?_
              rintro e w6 ⟨rfl, hb6⟩
              by_cases hq : (putF ls2[i].pts ⟨zT, zV, seq⟩).1 = ls2[i].pts
              · have hstep := HStep.out
                rw [if_pos (show (putF ls2[i].pts (ptOf seq ⟨zat, _, lab, zT, zV⟩)).1 = ls2[i].pts from hq)] at hstep
                have HNext : Hid (PlB w xq b.1 seq ps (.slice Ao ol.length co) ol mb (k + 1) w6) := Lib.hid (by
                  have h7 := HX.out.then (bthen HB5.out hb6)
                  exact ⟨_, _, _, _, _, ⟨h7.m, hstep, h7.blk, h7.ents, h7.out, h7.ne⟩⟩)
                rw [decide_eq_true hq]
                clear hstep hb6 g0 g1 u0 u1 u2 hq
                go_wp2_with fail
                go_roundw
                case rel => exact ⟨k + 1, by omega, by go_num, HNext.out⟩
                case measure => simp [intOf] <;> omega
              · have hstep := HStep.out
                rw [if_neg (show ¬ (putF ls2[i].pts (ptOf seq ⟨zat, _, lab, zT, zV⟩)).1 = ls2[i].pts from hq)] at hstep
                have hB6 := bthen HB5.out hb6
                have h7 := HX.out.then hB6
                have hgX : g ∈ X2 := (HX.out.m.ref.blk g rfl).1
                have hp3 := plm_put (x := ⟨ls2[i].ref, ⟨zT, zV, seq⟩⟩) (hi := hi) h7.m HX.out.at_.rk.rise (fun k hk => Nat.lt_of_lt_of_le (HLt.out k hk) HB4.out.size) (HVn.out.below hb6) rfl
                have hsep := fun j hj => (HX.out.m.sep j hj).2
                have hng : ∀ j ∈ mb :: (ownL (.slice Ao ol.length co) ++ ownL ev), j ≠ g := fun j hj e => hsep j hj (.inr (by rw [e]; rfl))
                have hkeep : ∀ j, j ≠ g → (w6.setCell ⟨g, i * 3 + 2, none⟩ (.slice An (putF ls2[i].pts ⟨zT, zV, seq⟩).1.length cn)).heap[j]? = w6.heap[j]? := fun j hj => Below.heap_setCell _ _ _ _ hj
                have hmb := (hkeep mb (hng mb (List.mem_cons_self ..))).trans h7.blk
                have hout := ownsRow_move h7.out (fun j hj => hkeep j (hng j (List.mem_cons_of_mem _ (List.mem_append_left _ (ownL_mem.2 hj)))))
                have hent := ownsRow_move h7.ents (fun j hj => hkeep j (hng j (List.mem_cons_of_mem _ (List.mem_append_right _ (ownL_mem.2 hj)))))
                have hyg : yb ≠ g := by have := HLt.out g hgX; have := Hyb.out; omega
                have hoth : ∀ (q : Addr) (u : Value), (⟨g, i * 3 + 2, none⟩ : Addr) ≠ q → w6.cell? q = some u → (w6.setCell ⟨g, i * 3 + 2, none⟩ (.slice An (putF ls2[i].pts ⟨zT, zV, seq⟩).1.length cn)).cell? q = some u := fun q u hne h => (World.cell?_setCell_other _ _ _ _ hne).trans h
                have k0 := hoth ⟨xq, 0, none⟩ _ (fun e => HGx.out (by injection e)) (later hb6 g0)
                have k1 := hoth ⟨g, i * 3, none⟩ _ (fun e => by injection e; omega) (later hB6 R0.out)
                have k2 := hoth ⟨yb, 0, none⟩ _ (fun e => hyg (by injection e with e; exact e.symm)) (later hb6 u0)
                have k3 := hoth ⟨yb, 1, none⟩ _ (fun e => hyg (by injection e with e; exact e.symm)) (later hb6 u1)
                have k4 := hoth ⟨yb, 2, none⟩ _ (fun e => hyg (by injection e with e; exact e.symm)) (later hb6 u2)
                have k5 := blk_cell hmb 3
                simp at k5
                have p0 := later hb6 g0
                have p1 := later hb6 g1
                have fz := HFz.out _ hB6
                have HP3 := Lib.hid hp3
                have HMb := Lib.hid hmb
                have HOut := Lib.hid hout
                have HEnt := Lib.hid hent
                have HStep2 := Lib.hid hstep
                have Hsz : Hid (w.heap.size ≤ (w6.setCell ⟨g, i * 3 + 2, none⟩ (.slice An (putF ls2[i].pts ⟨zT, zV, seq⟩).1.length cn)).heap.size) := Lib.hid (by simp only [World.setCell]; exact hp3.below.size)
                have K0 := Lib.hid k0
                have K1 := Lib.hid k1
                have K2 := Lib.hid k2
                have K3 := Lib.hid k3
                have K4 := Lib.hid k4
                have K5 := Lib.hid k5
                rw [decide_eq_false hq]
                clear hstep hB6 h7 hgX hp3 hsep hng hkeep hmb hout hent hyg hoth k0 k1 k2 k3 k4 k5 g0 g1 u0 u1 u2 hb6 hq
                go_upto_region 29 with fail
                generalize w6.setCell ⟨g, i * 3 + 2, none⟩ (.slice An (putF ls2[i].pts ⟨zT, zV, seq⟩).1.length cn) = W3 at *
                have x0 : W3.drew.cell? ⟨xq, 0, none⟩ = some (.slice (some ⟨g, 0, none⟩) n8 c8) := K0.out
                have x1 : W3.drew.cell? ⟨g, i * 3, none⟩ = some (.int .u32 ls2[i].ref) := K1.out
                have x2 : W3.drew.cell? ⟨yb, 0, none⟩ = some (.int .i64 zT) := K2.out
                have x3 : W3.drew.cell? ⟨yb, 1, none⟩ = some (.int .u64 zV) := K3.out
                have x4 : W3.drew.cell? ⟨yb, 2, none⟩ = some (.int .u64 seq) := K4.out
                have x5 : W3.drew.cell? ⟨mb, 3, none⟩ = some ev := K5.out
                have x6 : ∀ o', (W3.alloc o').cell? ⟨mb, 3, none⟩ = some ev := fun o' => later (balloc (Below.refl _ _) o') K5.out
                have x7 : ∀ o', (W3.drew.alloc o').cell? ⟨mb, 3, none⟩ = some ev := fun o' => later (balloc (bdrew (Below.refl _ _)) o') K5.out
                have hf0 : W3.drew.frozen? ⟨mb, 3, none⟩ = false := free_blk (i := 3) HMb.out
                have HBd : Hid (Below W3.heap.size W3 W3.drew) := Lib.hid (bdrew (Below.refl _ _))
                have Hes : Hid (s.2.length ≤ 100000) := Lib.hid (by
                  have := HX.out.at_.ents
                  have := hk
                  have := Hm16.out
                  omega)
                have N1 : Hid (some mb ≠ ev.ownBlock) := Lib.hid (fun e => HX.out.ne.2.1 (ownL_mem.2 e.symm))
                generalize hrf : ls2[i].ref = rf at *
                clear p0 p1 fz HCall HPut HLz HLt HRd5 HPl HMs V2 V3 CX R2 R0 HB3 HB4 HB5 HBw HBy HFz HGx HSame HVn HStep HN5 HN8 K0 K1 K2 K3 K4 K5 HWr HCl HB1 HA0 HP0 HPk2 HLabs HPo HRp HS0 Hroom Htop HPos HRk Hol HRr HOk HM HO HB Hin
                go_region_law (first | (refine step_app2 (o := ⟨some 142, _, _, _, _, _⟩) (w0 := W3) (W0 := W3) w.heap.size rfl _ _ 43 100 _ 4 32 1 (En.enc ⟨rf, ⟨zT, zV, seq⟩⟩) rfl Tryz.underlying43 info_en rfl (by decide) (by decide) ev s.2.length (s.2.flatMap En.enc) rfl _ rfl ?_ HEnt.out (Below.refl _ _) Hsz.out ?_ ?_ ?_; (exact src_block (blk_new _ _) rfl (en_one ⟨rf, ⟨zT, zV, seq⟩⟩) 1); (exact balloc HBd.out _); (have := Hes.out; omega); intro v5 w5 hO5 hB5 hg5 hat5; obtain ⟨A9, c9, rfl⟩ := own_slice hO5; have hqb5 := blk_grown (blk_below HMb.out (balloc HBd.out _)) hg5 N1.out; have HO5 := Lib.hid hO5; have HB5x := Lib.hid hB5; have HG5 := Lib.hid hg5; have HA5 := Lib.hid hat5; have q51 := blk_cell hqb5 3; have f51 := free_blk (i := 3) hqb5; simp at q51; clear hO5 hB5 hg5 hat5 hqb5))
                all_goals
                  have HFin : Hid (PlB w xq b.1 seq ps (.slice Ao ol.length co) ol mb (k + 1) (w5.setCell ⟨mb, 3, none⟩ (.slice A9 (s.2.length + 1) c9))) := Lib.hid (plb_next (x := ⟨rf, ⟨zT, zV, seq⟩⟩) HP3.out HMb.out HOut.out HEnt.out HX.out.ne (balloc HBd.out _) HO5.out HG5.out (by simpa using HA5.out) HStep2.out)
                  clear q51 f51 x0 x1 x2 x3 x4 x5 x6 x7 hf0 HO5 HB5x HG5 HA5
                  go_wp2_with fail
                  go_roundw
                  case rel => exact ⟨k + 1, by omega, by go_num, HFin.out⟩
                  case measure => simp [intOf] <;> omega
            /-B.-/
          · have hkm : ps.take k = ps := List.take_of_length_le (by rw [← Hm.out]; omega)
            have hse := hx.at_.eq
            rw [hkm] at hse
            have hpk := HPk2.out
            rw [← hse] at hpk
            have HPk3 := Lib.hid hpk
            have HAt := Lib.hid hx.at_
            have c3 := blk_cell hx.blk 3
            have c0 := blk_cell hx.blk 0
            have c1' := blk_cell hx.blk 1
            have c2 := blk_cell hx.blk 2
            simp at c3 c0 c1' c2
            have he : (0 < (s.2.length : Int) ∧ s.2 ≠ []) ∨ (¬ (0 < (s.2.length : Int)) ∧ s.2 = []) := by
              cases hs2 : s.2 with
              | nil => exact .inr ⟨by simp, rfl⟩
              | cons a l => exact .inl ⟨by rw [List.length_cons]; omega, by simp⟩
            obtain ⟨Ae, ce, rfl⟩ := own_slice hx.ents
            have HEe := Lib.hid he
            have HOx := Lib.hid hx.out
            obtain ⟨ne, hne⟩ : ∃ ne, ne = s.2.length := ⟨_, rfl⟩
            rw [← hne] at c3 he
            have HNe := Lib.hid hne
            clear hkm hse hpk hE hx hne
            go_upto_if 148 with fail
            go_cut [11] (fun v11 wx => PlR w xq s b.2 v11 wx)
            case first =>
              rcases he with ⟨he, he2⟩ | ⟨he, he2⟩
              · have HE2 := Lib.hid he2
                have HBa : Hid (Below wr.heap.size wr (wr.alloc (.cells #[.int .i64 2, .int .u32 0, .slice none 0 0, .slice Ae ne ce] 45))) := Lib.hid (balloc (Below.refl _ _) _)
                have HOa := Lib.hid (own_below HOx.out HBa.out)
                have HBs : Hid (w.heap.size ≤ (wr.alloc (.cells #[.int .i64 2, .int .u32 0, .slice none 0 0, .slice Ae ne ce] 45)).heap.size) := Lib.hid (Nat.le_trans HX.out.m.below.size HBa.out.size)
                have hol := Hol.out
                clear he2
                go_wp2_with (at_builtin; refine wpList_app (w0 := wr.alloc (.cells #[.int .i64 2, .int .u32 0, .slice none 0 0, .slice Ae ne ce] 45)) w.heap.size rfl _ _ 32 45 _ 4 64 1 [.int .i64 2, .int .u32 0, .slice none 0 0, .slice Ae ne ce] rfl Tryz.underlying32 info_rec rfl (by decide) (by decide) (.slice Ao ol.length co) ol.length (ol.flatMap RecV.enc) ?hs ?hx HOa.out (Below.refl _ _) HBs.out (by omega) ?_)
                try case hs => rfl
                case hx => exact src_block (m := 1) (size := 4) (cs := #[.int .i64 2, .int .u32 0, .slice none 0 0, .slice Ae ne ce]) (blk_new _ _) rfl (fun u hu => by simp at hu; rcases hu with rfl | rfl | rfl | rfl <;> rfl) 1
                intro v6 w6 hO6 hB6 hg6 hat6
                have HR6 := Lib.hid (plr_more HX.out HOk.out HRr.out HE2.out HBa.out (by rw [← HNe.out]; exact hO6) hg6)
                obtain ⟨A6, c6, rfl⟩ := own_slice hO6
                clear hO6 hB6 hg6 hat6
                go_wp2_with fail
                go_meet
                exact HR6.out
              · have HR6 := Lib.hid (plr_none HX.out HOk.out HRr.out he2)
                clear he2
                go_wp2_with fail
                go_meet
                exact HR6.out
            case rest =>
              obtain ⟨X4, vx4, ls4, ol4, hR4, hK4, hS4, hO4, hrr4⟩ := hcut.ex
              have HB7 := Lib.hid hcut.below
              have HR4 := Lib.hid hR4
              have HK4 := Lib.hid hK4
              have HS4 := Lib.hid hS4
              have HO4 := Lib.hid hO4
              have HRr4 := Lib.hid hrr4
              clear hcut hR4 hK4 hS4 hO4 hrr4 c0 c1' c2 c3 he HX HOx
              generalize wc = w7 at *
              go_wp2_with fail
              go_loopw [26, 155] (fun v26 i wr => ∃ k : Nat, k ≤ m ∧ i = .int .i64 k ∧ PlC w7 (markK s.1) ps k v26 wr) (fun _ i _ => m - (intOf i).toNat)
              case atStart => exact ⟨0, Nat.zero_le _, rfl, PlC.start _ _ _⟩
              case round =>
                obtain ⟨k, hk, rfl, hE⟩ := hrel
                by_cases hlt : k < m
                · have hkl : k < ps.length := by rw [← Hm.out]; exact hlt
                  have hB := hE.below
                  obtain ⟨bb, off, e9, z0, z1, z2, z3⟩ := rdO_at (Rd.below HRp.out (bthen HB7.out hB)) hkl
                  cases e9
                  have hpo := HPo.out _ (List.getElem_mem hkl)
                  have hlab := HAt.out.labs _ (List.getElem_mem hkl)
                  have hkf := find_idx (l := ls4) (lab := ps[k].lab)
                  rw [HK4.out] at hkf
                  rcases hkf with ⟨f1, f2⟩ | ⟨i, hi, f1, f2⟩
                  · rw [has_key, f2] at hlab; cases hlab
                  · have hrp5 : rightP ls4[i].pts = true := HAt.out.rk.right ls4[i].key (by rw [← HK4.out]; exact List.mem_map_of_mem (List.getElem_mem hi))
                    have hri := (rightP_rising hrp5).1
                    have hpl := (rightP_rising hrp5).2
                    obtain ⟨g, c8, eg, -, -, r2, -⟩ := row_cells HR4.out hi
                    subst eg
                    have hcx := blk_cell HR4.out.hc 0
                    simp at hcx
                    obtain ⟨-, hspv⟩ := HR4.out.ok _ (List.getElem_mem hi)
                    obtain ⟨A5, c5, e5, -, -, -, -, q5⟩ := id hspv
                    rw [e5] at r2
                    have hadd := plc_add (markK s.1) ps k hkl
                    have hmk : markK s.1 ps[k] = ⟨ps[k].at_, match atP ls4[i].pts ps[k].T with | some q => decide (q.V = ps[k].V) | none => false⟩ := by unfold markK; rw [f2]; rfl
                    rw [hmk] at hadd
                    have hlow := at_low hri ps[k].T
                    have hcall := fun (W : World) (hW : Below w7.heap.size w7 W) => ref14_at xq _ ps[k].v ls4 ps[k].lab W (later hW hcx) (HR4.out.below hW).slc (HR4.out.below hW).ok (hpo.1.below (bthen HB7.out hW))
                    have hfind := fun (W : World) (hW : Below w7.heap.size w7 W) => ref_find A5 c5 ls4[i].pts ps[k].T W (Rd.below q5 hW) (by omega)
                    rw [f1] at hcall
                    generalize ps[k] = z at *
                    obtain ⟨zat, zv, lab, zT, zV⟩ := z
                    simp only at z0 z1 z2 z3 hpo hadd hlow hcall hfind
                    obtain ⟨⟨A4, c4, rfl, -⟩, -⟩ := hpo
                    have HQ5 := Lib.hid q5
                    have HAdd := Lib.hid hadd
                    have HLow := Lib.hid hlow
                    have HFind := Lib.hid hfind
                    have HCall : Hid (∀ W, Below w7.heap.size w7 W → Calls Tryz.prog 43 #[.pointer (some ⟨xq, 0, none⟩), .slice A4 lab.length c4] W fun e w' => e = .returned (.int .i64 (i : Int)) ∧ Below W.heap.size W w') := Lib.hid hcall
                    obtain ⟨n8, hn8⟩ : ∃ n8, n8 = ls4.length := ⟨_, rfl⟩
                    rw [← hn8] at hcx
                    have hi0 : (0 : Int) ≤ (i : Int) := by omega
                    have hi1 : (i : Int) < (n8 : Int) := by omega
                    have HE := Lib.hid hE
                    have HBr := Lib.hid hB
                    have HPl := Lib.hid hpl
                    have hbw : Below wr.heap.size wr (wr.alloc (.cells #[.int .i64 zat, .slice A4 lab.length c4, .int .i64 zT, .int .u64 zV] 77)) := balloc (Below.refl _ _) _
                    have HBw := Lib.hid hbw
                    have v0 : (wr.alloc (.cells #[.int .i64 zat, .slice A4 lab.length c4, .int .i64 zT, .int .u64 zV] 77)).cell? ⟨wr.heap.size, 0, none⟩ = some (.int .i64 zat) := by simp
                    have v1 : (wr.alloc (.cells #[.int .i64 zat, .slice A4 lab.length c4, .int .i64 zT, .int .u64 zV] 77)).cell? ⟨wr.heap.size, 1, none⟩ = some (.slice A4 lab.length c4) := by simp
                    have v2 : (wr.alloc (.cells #[.int .i64 zat, .slice A4 lab.length c4, .int .i64 zT, .int .u64 zV] 77)).cell? ⟨wr.heap.size, 2, none⟩ = some (.int .i64 zT) := by simp
                    have v3 : (wr.alloc (.cells #[.int .i64 zat, .slice A4 lab.length c4, .int .i64 zT, .int .u64 zV] 77)).cell? ⟨wr.heap.size, 3, none⟩ = some (.int .u64 zV) := by simp
                    have y1 := later hbw (later hB hcx)
                    have y3 := later hbw (later hB r2)
                    clear hE hB hadd hlow hfind hcall hri hrp5 hpl hlab hspv q5 hmk f1 f2 hbw hcx r2 hn8 e5 hkl
                    go_upto_region 37 with fail
                    generalize wr.alloc (.cells #[.int .i64 zat, .slice A4 lab.length c4, .int .i64 zT, .int .u64 zV] 77) = W at *
                    have x1 : W.drew.cell? ⟨xq, 0, none⟩ = some (.slice (some ⟨g, 0, none⟩) n8 c8) := y1
                    have x2 : W.drew.cell? ⟨wr.heap.size, 1, none⟩ = some (.slice A4 lab.length c4) := v1
                    have x3 : W.drew.cell? ⟨g, i * 3 + 2, none⟩ = some (.slice A5 ls4[i].pts.length c5) := y3
                    have Hkm : Hid (k < m ∧ m ≤ 16) := Lib.hid ⟨hlt, Hm16.out⟩
                    generalize lab.length = n4 at *
                    go_region_held3 (fun w' => w'.cell? ⟨xq, 0, none⟩ = some (.slice (some ⟨g, 0, none⟩) n8 c8) ∧ w'.cell? ⟨wr.heap.size, 1, none⟩ = some (.slice A4 n4 c4) ∧ w'.cell? ⟨g, i * 3 + 2, none⟩ = some (.slice A5 ls4[i].pts.length c5)) (first | exact ⟨x1, x2, x3⟩ | exact ⟨later hb' x1, later hb' x2, later hb' x3⟩)
                      (first | (go_at_call 43; refine (HCall.out _ (bthen HBr.out (bthen HBw.out (bdrew (Below.refl _ _))))).mono ?_; rintro e w' ⟨rfl, hb'⟩))
                    generalize w' = w8 at *
                    have hb8 := hb'
                    have g0 : w8.cell? ⟨wr.heap.size, 0, none⟩ = some (.int .i64 zat) := later hb' (show W.drew.cell? _ = _ from v0)
                    have g2 : w8.cell? ⟨wr.heap.size, 2, none⟩ = some (.int .i64 zT) := later hb' (show W.drew.cell? _ = _ from v2)
                    have g3 : w8.cell? ⟨wr.heap.size, 3, none⟩ = some (.int .u64 zV) := later hb' (show W.drew.cell? _ = _ from v3)
                    have HFind8 := Lib.hid (HFind.out _ (bthen HBr.out (bthen HBw.out (bthen (bdrew (Below.refl _ _)) hb'))))
                    clear hb' v0 v1 v2 v3 y1 y3 x1 x2 x3 z0 z1 z2 z3
                    go_wp2_with fail
                    refine HFind8.out.mono ?_
                    rintro e w9 ⟨rfl, hb9⟩
                    clear g2
                    by_cases hh : hasP ls4[i].pts zT = true
                    ·
                      /-E-/
                      have hh := hh
                      obtain ⟨qp, hq1, -, hq2⟩ := HLow.out.1 hh
                      have hadd := HAdd.out
                      rw [hq2] at hadd
                      obtain ⟨bz, hbz⟩ : ∃ bz, (qp.V == zV) = bz := ⟨_, rfl⟩
                      have hmkz : decide (qp.V = zV) = bz := hbz
                      simp only [hmkz] at hadd
                      have hlo : lowP ls4[i].pts zT < ls4[i].pts.length := (List.getElem?_eq_some_iff.1 hq1).1
                      obtain ⟨bm, om, eA5, -, w1c, -⟩ := RdP.at_ HQ5.out hlo
                      subst eA5
                      rw [(List.getElem?_eq_some_iff.1 hq1).2] at w1c
                      have hbm := World.block_lt_of_cell? _ _ w1c
                      have HAdd2 := Lib.hid hadd
                      have hlo0 : (0 : Int) ≤ ((lowP ls4[i].pts zT : Nat) : Int) := by omega
                      have hlo1 : ((lowP ls4[i].pts zT : Nat) : Int) < (ls4[i].pts.length : Int) := by omega
                      have HO9 := Lib.hid (own_below HE.out.own (bthen HBw.out (bthen (bthen (bdrew (Below.refl _ _)) hb8) hb9)))
                      have HB9 := Lib.hid (bthen HBr.out (bthen HBw.out (bthen (bthen (bdrew (Below.refl _ _)) hb8) hb9)))
                      have d0 : w9.drew.cell? ⟨wr.heap.size, 0, none⟩ = some (.int .i64 zat) := later hb9 g0
                      have d3 : w9.drew.cell? ⟨bm, om + lowP ls4[i].pts zT * 3 + 1, none⟩ = some (.int .u64 qp.V) := later HB9.out w1c
                      have d4 : w9.drew.cell? ⟨wr.heap.size, 3, none⟩ = some (.int .u64 zV) := later hb9 g3
                      have Nv : Hid (some wr.heap.size ≠ u26.ownBlock) := Lib.hid (fun e => by have := ownsRow_blk HE.out.own _ e.symm; omega)
                      have Nm : Hid (some bm ≠ u26.ownBlock) := Lib.hid (own_ne HE.out.own hbm)
                      rw [hh]
                      clear hadd hmkz hlo hbm hb9 hb8 g0 g3 hq1 hq2 w1c hh
                      generalize lowP ls4[i].pts zT = lo at *
                      generalize ls4[i].pts.length = n5 at *
                      generalize qp.V = qV at *
                      go_wp2_with fail
                      go_region_held3 (fun w' => w'.cell? ⟨wr.heap.size, 0, none⟩ = some (.int .i64 zat) ∧ w'.cell? ⟨bm, om + lo * 3 + 1, none⟩ = some (.int .u64 qV) ∧ w'.cell? ⟨wr.heap.size, 3, none⟩ = some (.int .u64 zV))
                        (first | exact ⟨d0, d3, d4⟩ | exact ⟨t0, t3, t4⟩ | exact ⟨later (w1 := (w9.alloc _).drew) (balloc (Below.refl _ _) _) d0, later (w1 := (w9.alloc _).drew) (balloc (Below.refl _ _) _) d3, later (w1 := (w9.alloc _).drew) (balloc (Below.refl _ _) _) d4⟩)
                        (first | (refine step_app2 (o := ⟨some 193, _, _, _, _, _⟩) (w0 := w9) (W0 := w9) w7.heap.size rfl _ _ 33 79 _ 2 16 1 (Mk.enc ⟨zat, bz⟩) rfl Tryz.underlying33 info_mk rfl (by decide) (by decide) u26 k _ rfl _ rfl ?_ HO9.out (Below.refl _ _) HB9.out.size ?_ ?_ ?_; (exact src_block (blk_new _ _) rfl (mk_one ⟨zat, bz⟩) 1); (exact bdrew (balloc (Below.refl _ _) _)); (have := Hkm.out; omega); intro v10 w10 hO10 hB10 hg10 hat10; have t0 := hg10.cell (later (w1 := (w9.alloc _).drew) (balloc (Below.refl _ _) _) d0) Nv.out; have t3 := hg10.cell (later (w1 := (w9.alloc _).drew) (balloc (Below.refl _ _) _) d3) Nm.out; have t4 := hg10.cell (later (w1 := (w9.alloc _).drew) (balloc (Below.refl _ _) _) d4) Nv.out))
                      have HFin : Hid (PlC w7 (markK s.1) ps (k + 1) v10 w10) := Lib.hid ⟨by rw [HAdd2.out]; exact hO10, HB9.out.trans hB10⟩
                      clear hO10 hB10 hg10 hat10 t0 t3 t4
                      go_wp2_with fail
                      go_roundw
                      case rel => exact ⟨k + 1, by omega, by go_num, HFin.out⟩
                      case measure => simp [intOf] <;> omega
                      /-E.-/
                    · have hh0 := hh
                      have hh : hasP ls4[i].pts zT = false := by simpa using hh
                      have hadd := HAdd.out
                      rw [HLow.out.2 hh] at hadd
                      simp only at hadd
                      have HAdd2 := Lib.hid hadd
                      have HO9 := Lib.hid (own_below HE.out.own (bthen HBw.out (bthen (bthen (bdrew (Below.refl _ _)) hb8) hb9)))
                      have HB9 := Lib.hid (bthen HBr.out (bthen HBw.out (bthen (bthen (bdrew (Below.refl _ _)) hb8) hb9)))
                      have d0 : w9.drew.cell? ⟨wr.heap.size, 0, none⟩ = some (.int .i64 zat) := later hb9 g0
                      have Nv : Hid (some wr.heap.size ≠ u26.ownBlock) := Lib.hid (fun e => by have := ownsRow_blk HE.out.own _ e.symm; omega)
                      rw [hh]
                      clear hadd hb9 hb8 g0 g3 hh
                      generalize lowP ls4[i].pts zT = lo at *
                      generalize ls4[i].pts.length = n5 at *
                      go_wp2_with fail
                      refine wp_region_held_drew (S := fun w' => w'.cell? ⟨wr.heap.size, 0, none⟩ = some (.int .i64 zat)) (by kernel_rfl) d0 (fun hHeld => ?_)
                      refine wpAnyH_take (i := 0) (oi := ⟨some 177, _, _, _, _, _⟩) (v := ?_) rfl (by kernel_rfl) (by kernel_rfl) (by kernel_rfl) (fun _ _ _ h => h) (Or.inl ⟨by rfl, fun w hSw => ?_⟩) (by assumption) ?_
                      rotate_left 1
                      · (try dsimp only at hSw); go_simp; try with_reducible rfl
                      try simp only [Act.put, List.setIfInBounds_toArray, List.set_cons_zero, List.set_cons_succ]
                      refine wpAnyH_take (i := 1) (oi := ⟨some 178, _, _, _, _, _⟩) (v := ?_) rfl (by kernel_rfl) (by kernel_rfl) (by kernel_rfl) (fun _ _ _ h => h) (Or.inl ⟨by rfl, fun w hSw => ?_⟩) (by assumption) ?_
                      rotate_left 1
                      · (try dsimp only at hSw); go_simp; try with_reducible rfl
                      try simp only [Act.put, List.setIfInBounds_toArray, List.set_cons_zero, List.set_cons_succ]
                      refine wpAnyH_take (i := 2) (oi := ⟨some 179, _, _, _, _, _⟩) (v := ?_) rfl (by kernel_rfl) (by kernel_rfl) (by kernel_rfl) (fun _ _ _ h => h) (Or.inl ⟨by rfl, fun w hSw => ?_⟩) (by assumption) ?_
                      rotate_left 1
                      · (try dsimp only at hSw); go_simp; try with_reducible rfl
                      try simp only [Act.put, List.setIfInBounds_toArray, List.set_cons_zero, List.set_cons_succ]
                      refine wpAnyH_take (i := 3) (oi := ⟨some 180, _, _, _, _, _⟩) (v := ?_) rfl (by kernel_rfl) (by kernel_rfl) (by kernel_rfl) (fun _ _ _ h => h) (Or.inl ⟨by rfl, fun w hSw => ?_⟩) (by assumption) ?_
                      rotate_left 1
                      · (try dsimp only at hSw); go_simp; try with_reducible rfl
                      try simp only [Act.put, List.setIfInBounds_toArray, List.set_cons_zero, List.set_cons_succ]
                      refine wpAnyH_take (i := 4) (oi := ⟨some 181, _, _, _, _, _⟩) (v := ?_) rfl (by kernel_rfl) (by kernel_rfl) (by kernel_rfl) (fun _ _ _ h => h) (Or.inl ⟨by rfl, fun w hSw => ?_⟩) (by assumption) ?_
                      rotate_left 1
                      · (try dsimp only at hSw); go_simp; try with_reducible rfl
                      try simp only [Act.put, List.setIfInBounds_toArray, List.set_cons_zero, List.set_cons_succ]
                      refine wpAnyH_take (i := 5) (oi := ⟨some 182, _, _, _, _, _⟩) (v := undef) rfl (by kernel_rfl) (by kernel_rfl) (by kernel_rfl) (fun _ _ _ h => h) (Or.inr ⟨by rfl, rfl⟩) (by assumption) ?_
                      try simp only [Act.put, List.setIfInBounds_toArray, List.set_cons_zero, List.set_cons_succ]
                      refine wpAnyH_take (i := 6) (oi := ⟨some 183, _, _, _, _, _⟩) (v := undef) rfl (by kernel_rfl) (by kernel_rfl) (by kernel_rfl) (fun _ _ _ h => h) (Or.inr ⟨by rfl, rfl⟩) (by assumption) ?_
                      try simp only [Act.put, List.setIfInBounds_toArray, List.set_cons_zero, List.set_cons_succ]
                      refine wpAnyH_take (i := 7) (oi := ⟨some 184, _, _, _, _, _⟩) (v := undef) rfl (by kernel_rfl) (by kernel_rfl) (by kernel_rfl) (fun _ _ _ h => h) (Or.inr ⟨by rfl, rfl⟩) (by assumption) ?_
                      try simp only [Act.put, List.setIfInBounds_toArray, List.set_cons_zero, List.set_cons_succ]
                      refine wpAnyH_take (i := 8) (oi := ⟨some 185, _, _, _, _, _⟩) (v := undef) rfl (by kernel_rfl) (by kernel_rfl) (by kernel_rfl) (fun _ _ _ h => h) (Or.inr ⟨by rfl, rfl⟩) (by assumption) ?_
                      try simp only [Act.put, List.setIfInBounds_toArray, List.set_cons_zero, List.set_cons_succ]
                      refine wpAnyH_take (i := 9) (oi := ⟨some 186, _, _, _, _, _⟩) (v := undef) rfl (by kernel_rfl) (by kernel_rfl) (by kernel_rfl) (fun _ _ _ h => h) (Or.inr ⟨by rfl, rfl⟩) (by assumption) ?_
                      try simp only [Act.put, List.setIfInBounds_toArray, List.set_cons_zero, List.set_cons_succ]
                      refine wpAnyH_take (i := 10) (oi := ⟨some 187, _, _, _, _, _⟩) (v := undef) rfl (by kernel_rfl) (by kernel_rfl) (by kernel_rfl) (fun _ _ _ h => h) (Or.inr ⟨by rfl, rfl⟩) (by assumption) ?_
                      try simp only [Act.put, List.setIfInBounds_toArray, List.set_cons_zero, List.set_cons_succ]
                      refine wpAnyH_take (i := 11) (oi := ⟨some 188, _, _, _, _, _⟩) (v := undef) rfl (by kernel_rfl) (by kernel_rfl) (by kernel_rfl) (fun _ _ _ h => h) (Or.inr ⟨by rfl, rfl⟩) (by assumption) ?_
                      try simp only [Act.put, List.setIfInBounds_toArray, List.set_cons_zero, List.set_cons_succ]
                      refine wpAnyH_take (i := 12) (oi := ⟨some 189, _, _, _, _, _⟩) (v := undef) rfl (by kernel_rfl) (by kernel_rfl) (by kernel_rfl) (fun _ _ _ h => h) (Or.inr ⟨by rfl, rfl⟩) (by assumption) ?_
                      try simp only [Act.put, List.setIfInBounds_toArray, List.set_cons_zero, List.set_cons_succ]
                      refine wpAnyH_take (i := 13) (oi := ⟨some 190, _, _, _, _, _⟩) (v := ?_) rfl (by kernel_rfl) (by kernel_rfl) (by kernel_rfl) (fun _ _ _ h => h) (Or.inl ⟨by rfl, fun w hSw => ?_⟩) (by assumption) ?_
                      rotate_left 1
                      · (try dsimp only at hSw); go_simp; try with_reducible rfl
                      try simp only [Act.put, List.setIfInBounds_toArray, List.set_cons_zero, List.set_cons_succ]
                      refine wpAnyH_take (i := 14) (oi := ⟨some 191, _, _, _, _, _⟩) (v := ?_) rfl (by kernel_rfl) (by kernel_rfl) (by kernel_rfl) (fun _ _ _ h => h) (Or.inl ⟨by rfl, fun w hSw => ?_⟩) (by assumption) ?_
                      rotate_left 1
                      · (try dsimp only at hSw); go_simp; try with_reducible rfl
                      try simp only [Act.put, List.setIfInBounds_toArray, List.set_cons_zero, List.set_cons_succ]
                      refine wpAnyH_ready (rs := [15]) (by kernel_rfl) (by simp) ?_
                      refine AllReadyH.cons (o := ⟨some 192, _, _, _, _, _⟩) rfl (fun K hK => ?_) AllReadyH.nil
                      go_simp
                      refine hK.out _ _ (later (w1 := (w9.alloc _).drew) (balloc (Below.refl _ _) _) d0) (fun hHeld2 => ?_)
                      clear hK K hHeld
                      try simp only [Act.put, List.setIfInBounds_toArray, List.set_cons_zero, List.set_cons_succ]
                      refine wpAnyH_ready (rs := [16]) (by kernel_rfl) (by simp) ?_
                      refine AllReadyH.cons (o := ⟨some 193, _, _, _, _, _⟩) rfl (fun K hK => ?_) AllReadyH.nil
                      refine step_app2 (o := ⟨some 193, _, _, _, _, _⟩) (w0 := w9) (W0 := w9) w7.heap.size rfl _ _ 33 79 _ 2 16 1 (Mk.enc ⟨zat, false⟩) rfl Tryz.underlying33 info_mk rfl (by decide) (by decide) u26 k _ rfl _ rfl ?_ HO9.out (Below.refl _ _) HB9.out.size ?_ ?_ ?_
                      · exact src_block (blk_new _ _) rfl (mk_one ⟨zat, false⟩) 1
                      · exact bdrew (balloc (Below.refl _ _) _)
                      · have := Hkm.out; omega
                      intro v10 w10 hO10 hB10 hg10 hat10
                      refine hK.out _ _ (hg10.cell hHeld2 Nv.out) (fun hHeld => ?_)
                      clear hK K hHeld2
                      try simp only [Act.put, List.setIfInBounds_toArray, List.set_cons_zero, List.set_cons_succ]
                      refine wpAnyH_take (i := 17) (oi := ⟨some 26, _, _, _, _, _⟩) (v := ?_) rfl (by kernel_rfl) (by kernel_rfl) (by kernel_rfl) (fun _ _ _ h => h) (Or.inl ⟨by rfl, fun w hSw => ?_⟩) (by assumption) ?_
                      rotate_left 1
                      · (try dsimp only at hSw); go_simp; try with_reducible rfl
                      try simp only [Act.put, List.setIfInBounds_toArray, List.set_cons_zero, List.set_cons_succ]
                      refine wpAnyH_done (by kernel_rfl) ?_ _
                      have HFin : Hid (PlC w7 (markK s.1) ps (k + 1) v10 w10) := Lib.hid ⟨by rw [HAdd2.out]; exact hO10, HB9.out.trans hB10⟩
                      clear hO10 hB10 hg10 hat10 hHeld
                      go_wp2_with fail
                      go_roundw
                      case rel => exact ⟨k + 1, by omega, by go_num, HFin.out⟩
                      case measure => simp [intOf] <;> omega
                · have hkm : ps.take k = ps := List.take_of_length_le (by rw [← Hm.out]; omega)
                  have hown := hE.own
                  rw [hkm] at hown
                  have hmks : Slc 2 Mk.enc wr (fun _ => True) u26 (ps.map (markK s.1)) := (own_slc mk_len (by rw [List.length_map, ← Hm.out]; omega) hown).mono (fun _ _ _ => trivial)
                  have HFin : Hid (RPlanPost w res (.returned (.tuple #[u11, u26, .int .i64 0])) wr) := Lib.hid (by
                    rw [HPk3.out]
                    exact ⟨_, _, ol4, rfl, HS4.out.below hE.below, HO4.out.move hE.below.size (fun k hk _ => hE.below.block k hk), HRr4.out, hmks, bthen HB7.out hE.below⟩)
                  clear hkm hown hmks hE
                  go_wp2_with fail
                  go_ret3
                  exact HFin.out
  · have hne : (wrongK K seq ps != 0) = true := by simp [h0]
    have HPk : Hid (planK K seq ps = ([], [], wrongK K seq ps)) := Lib.hid (by unfold planK; rw [if_pos h0])
    generalize wrongK K seq ps = q at *
    generalize planK K seq ps = res at *
    clear h0 hmm
    go_enter Tryz.func12, Tryz.ntmps12
    go_wp2_with fail
    refine HWr.out.mono ?_
    rintro e w1 ⟨rfl, hb1⟩
    have HFin : Hid (RPlanPost w res (.returned (.tuple #[.slice none 0 0, .slice none 0 0, .int .i64 q])) w1) := Lib.hid (by
      rw [HPk.out]
      exact ⟨_, _, [], rfl, Slc.nil _ _ _ _, fun x hx => by simp at hx, rfl, Slc.nil _ _ _ _, hb1⟩)
    clear hb1
    go_wp2_with fail
    go_ret3
    exact HFin.out
end Go.Proofs.YtbjglcdoekbloaaGreatDoor
