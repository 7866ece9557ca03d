import Derived.Test.YtbjglcdoekbloaaGreatDoorGLaA
import Derived.Test.YtbjglcdoekbloaaGreatDoorGLab
set_option linter.unusedSimpArgs false
set_option linter.unusedVariables false
set_option linter.unusedSectionVars false
/- the law's wrote. -/
namespace Go.Proofs.YtbjglcdoekbloaaGreatDoor
open Go.RowKit Go.Proofs.YtbjglcdoekbloaaGreatDoor.MapRaw Go.ChangeMaps

/-- records, one by one -/
def recAll : List Rec → Hd → Int × Hd
  | [], H => (0, H)
  | r :: l, H => if (recordF H r).1 ≠ 0 then ((recordF H r).1, H) else recAll l (recordF H r).2
structure RecTo (l : List Rec) (H : Hd) (k : Nat) (H' : Hd) : Prop where
  eq : recAll l H = recAll (l.drop k) H'
theorem RecTo.start (l : List Rec) (H : Hd) : RecTo l H 0 H := ⟨rfl⟩
theorem RecTo.round {l : List Rec} {H H' : Hd} {k : Nat} (h : RecTo l H k H') (h0 : (recAll l H).1 = 0) (hk : k < l.length) : (recordF H' l[k]).1 = 0 ∧ RecTo l H (k + 1) (recordF H' l[k]).2 := by
  have e := h.eq
  rw [List.drop_eq_getElem_cons hk, recAll] at e
  by_cases hr : (recordF H' l[k]).1 = 0
  · rw [if_neg (by simp [hr])] at e; exact ⟨hr, ⟨e⟩⟩
  · rw [if_pos hr] at e; rw [e] at h0; exact (hr h0).elim
theorem RecTo.done {l : List Rec} {H H' : Hd} {k : Nat} (h : RecTo l H k H') (hk : ¬ k < l.length) : recAll l H = (0, H') := by
  rw [h.eq, List.drop_eq_nil_of_le (by omega)]; rfl
/-- what a record must be to be handed in -/
def RecFit (r : Rec) : Prop := U32 r.ref ∧ SzL r.lab ∧ ∀ x ∈ r.pts, U32 x.ref
/-- the head turned, all else stays -/
structure Turned (w : World) (X : List Nat) (o : HLoc) (w' : World) (X' : List Nat) (o' : HLoc) (H' : Hd) : Prop where
  head : HeadAt w' X' o' H'
  hp : o'.hp = o.hp
  more : MoreX w X X'
  apart : Apart (fun k => k ∈ X) w w'
  fine : ApX o o' w w'
theorem Turned.start {w : World} {X : List Nat} {o : HLoc} {H : Hd} (h : HeadAt w X o H) : Turned w X o w X o H := ⟨h, rfl, MoreX.refl _ _, Apart.refl _ _, ApX.same (Below.refl _ _)⟩
theorem Turned.below {w w' w2 : World} {X X' : List Nat} {o o' : HLoc} {H' : Hd} (h : Turned w X o w' X' o' H') (hb : Below w'.heap.size w' w2) : Turned w X o w2 X' o' H' := ⟨h.head.below hb, h.hp, h.more, h.apart.then hb, h.fine.then hb⟩
theorem Turned.record {w w1 w2 : World} {X X1 : List Nat} {o o1 : HLoc} {H1 : Hd} {r : Int × Hd} {e : Ending} (h : Turned w X o w1 X1 o1 H1) (ht : TurnPost w1 X1 o1 r e w2) : ∃ o2 X2, Turned w X o w2 X2 o2 r.2 := by
  obtain ⟨_, o', X', h1, h2, h3, h4⟩ := ht
  obtain ⟨o2, X2, g1, g2, g3, g4⟩ := TurnRest.head h.head (show TurnRest w1 X1 o1 r.2 w2 from ⟨o', X', h1, h2, h3, h4⟩)
  have g5 : Apart (fun k => k ∈ X1) w1 w2 := g4.apart.mono (fun k _ hk => h.head.inn.bsub k hk)
  refine ⟨o2, X2, g1, g2.trans h.hp, h.more.trans g3 h.apart.size, h.apart.trans g5 (fun i hi hm => ?_), h.fine.trans g4⟩
  exact (h.more.new i hm).elim id (fun h => by omega)
theorem Turned.pre {w0 w w' : World} {X X' : List Nat} {o o' : HLoc} {H' : Hd} (hb : Below w0.heap.size w0 w) (h : Turned w X o w' X' o' H') : Turned w0 X o w' X' o' H' :=
  ⟨h.head, h.hp, ⟨h.more.old, fun k hk => (h.more.new k hk).imp id (fun h => Nat.le_trans hb.size h)⟩, (below_apart hb _).trans h.apart (fun _ _ h => h), h.fine.pre hb⟩
theorem Turned.slc {α : Type} {sz : Nat} {enc : α → List Value} {w w' : World} {X X' : List Nat} {o o' : HLoc} {H' : Hd} {v : Value} {l : List α} (ht : Turned w X o w' X' o' H') (h : Slc sz enc w (fun k => k ∉ X) v l) : Slc sz enc w' (fun k => k ∉ X') v l := h.turn ht.apart ht.more
end Go.Proofs.YtbjglcdoekbloaaGreatDoor

/- plain: right labels that are printed alike are the same. -/
namespace Go.Proofs.YtbjglcdoekbloaaGreatDoor

def entL (x : Lb) : List UInt8 := x.n.data.toList ++ 61 :: quoteF x.v.data.toList
def bodyN : List Lb → List UInt8
  | [] => []
  | x :: r => 44 :: 32 :: (entL x ++ bodyN r)
def bodyL : List Lb → List UInt8
  | [] => []
  | x :: r => entL x ++ bodyN r
theorem bytes_append (a b : ByteArray) : (a ++ b).data.toList = a.data.toList ++ b.data.toList := by simp
theorem step_bytes (i : Nat) (out : ByteArray) (x : Lb) : (stepP i out x).data.toList = out.data.toList ++ ((if 0 < i then [44, 32] else []) ++ entL x) := by
  unfold stepP sepP
  rw [bytes_append, bytes_append, bytes_append]
  by_cases h : 0 < i
  · rw [if_pos h, if_pos h, bytes_append]; simp [sB, quoteB, entL]
  · rw [if_neg h, if_neg h]; simp [sB, quoteB, entL]
theorem from_bytes : ∀ (l : List Lb) (i : Nat) (out : ByteArray), 0 < i → (printFrom i out l).data.toList = out.data.toList ++ bodyN l
  | [], i, out, _ => by simp [printFrom, bodyN]
  | x :: r, i, out, h => by
    rw [printFrom, from_bytes r (i + 1) _ (by omega), step_bytes, if_pos h]
    simp [bodyN]
theorem print_bytes (l : List Lb) : (printF l).data.toList = 123 :: (bodyL l ++ [125]) := by
  unfold printF
  rw [bytes_append]
  cases l with
  | nil => simp [printFrom, bodyL, sB]
  | cons x r =>
    rw [printFrom, from_bytes r 1 _ (by omega), step_bytes, if_neg (by omega)]
    simp [bodyL, sB]

/-! ### what is quoted -/
theorem esc_inj : ∀ (v v' : List UInt8) (t t' : List UInt8), v.flatMap escB ++ 34 :: t = v'.flatMap escB ++ 34 :: t' → v = v' ∧ t = t'
  | [], [], t, t', h => by simpa using h
  | [], c :: r, t, t', h => by
    exfalso
    rw [List.flatMap_nil, List.nil_append, List.flatMap_cons] at h
    unfold escB at h
    by_cases h1 : c = 34 ∨ c = 92
    · rw [if_pos h1] at h; simp at h
    · rw [if_neg h1] at h
      by_cases h2 : c = 10
      · rw [if_pos h2] at h; simp at h
      · rw [if_neg h2] at h; simp at h; exact h1 (.inl h.1.symm)
  | c :: r, [], t, t', h => by
    exfalso
    rw [List.flatMap_nil, List.nil_append, List.flatMap_cons] at h
    unfold escB at h
    by_cases h1 : c = 34 ∨ c = 92
    · rw [if_pos h1] at h; simp at h
    · rw [if_neg h1] at h
      by_cases h2 : c = 10
      · rw [if_pos h2] at h; simp at h
      · rw [if_neg h2] at h; simp at h; exact h1 (.inl h.1)
  | c :: r, d :: s, t, t', h => by
    have key : c = d ∧ r.flatMap escB ++ 34 :: t = s.flatMap escB ++ 34 :: t' := by
      rw [List.flatMap_cons, List.flatMap_cons, List.append_assoc, List.append_assoc] at h
      unfold escB at h
      by_cases h1 : c = 34 ∨ c = 92
      · rw [if_pos h1] at h
        by_cases g1 : d = 34 ∨ d = 92
        · rw [if_pos g1] at h
          simp only [List.cons_append, List.nil_append, List.cons.injEq, true_and] at h
          exact h
        · rw [if_neg g1] at h
          by_cases g2 : d = 10
          · rw [if_pos g2] at h
            simp only [List.cons_append, List.nil_append, List.cons.injEq, true_and] at h
            rcases h1 with e | e <;> (rw [e] at h; exact absurd h.1 (by decide))
          · rw [if_neg g2] at h
            simp only [List.cons_append, List.nil_append, List.cons.injEq] at h
            exact (g1 (.inr h.1.symm)).elim
      · rw [if_neg h1] at h
        by_cases h2 : c = 10
        · rw [if_pos h2] at h
          by_cases g1 : d = 34 ∨ d = 92
          · rw [if_pos g1] at h
            simp only [List.cons_append, List.nil_append, List.cons.injEq, true_and] at h
            rcases g1 with e | e <;> (rw [e] at h; exact absurd h.1 (by decide))
          · rw [if_neg g1] at h
            by_cases g2 : d = 10
            · rw [if_pos g2] at h
              simp only [List.cons_append, List.nil_append, List.cons.injEq, true_and] at h
              exact ⟨by rw [h2, g2], h⟩
            · rw [if_neg g2] at h
              simp only [List.cons_append, List.nil_append, List.cons.injEq] at h
              exact (g1 (.inr h.1.symm)).elim
        · rw [if_neg h2] at h
          by_cases g1 : d = 34 ∨ d = 92
          · rw [if_pos g1] at h
            simp only [List.cons_append, List.nil_append, List.cons.injEq] at h
            exact (h1 (.inr h.1)).elim
          · rw [if_neg g1] at h
            by_cases g2 : d = 10
            · rw [if_pos g2] at h
              simp only [List.cons_append, List.nil_append, List.cons.injEq] at h
              exact (h1 (.inr h.1)).elim
            · rw [if_neg g2] at h
              simp only [List.cons_append, List.nil_append, List.cons.injEq] at h
              exact h
    obtain ⟨e, h2⟩ := key
    obtain ⟨e1, e2⟩ := esc_inj r s t t' h2
    exact ⟨by rw [e, e1], e2⟩
theorem split_at {α : Type} (z : α) : ∀ (n n' t t' : List α), z ∉ n → z ∉ n' → n ++ z :: t = n' ++ z :: t' → n = n' ∧ t = t'
  | [], [], t, t', _, _, h => by simpa using h
  | [], c :: r, t, t', _, h2, h => by simp at h; exact (h2 (by simp [h.1])).elim
  | c :: r, [], t, t', h1, _, h => by simp at h; exact (h1 (by simp [h.1])).elim
  | c :: r, d :: s, t, t', h1, h2, h => by
    simp only [List.cons_append, List.cons.injEq] at h
    obtain ⟨e1, e2⟩ := split_at z r s t t' (fun h => h1 (List.mem_cons_of_mem _ h)) (fun h => h2 (List.mem_cons_of_mem _ h)) h.2
    exact ⟨by rw [h.1, e1], e2⟩

/-! ### names -/
def NameOk (n : ByteArray) : Prop := n.data.toList ≠ [] ∧ ∀ c ∈ n.data.toList, isL c.toNat = true
theorem named_ok {n : ByteArray} (h : namedF n = true) : NameOk n := by
  unfold namedF at h
  simp only [Bool.and_eq_true, decide_eq_true_eq] at h
  obtain ⟨⟨⟨h1, h2⟩, h3⟩, h4⟩ := h
  refine ⟨fun e => ?_, fun c hc => ?_⟩
  · have : n.data.toList.length = n.size := by rw [Array.length_toList]; rfl
    rw [e] at this; simp at this; omega
  · unfold restOk at h3
    rw [List.drop_zero] at h3
    exact List.all_eq_true.1 h3 c hc
theorem right_names : ∀ (l : List Lb) (p : Option ByteArray), rightFrom p l = 0 → ∀ x ∈ l, NameOk x.n
  | [], _, _, x, hx => by simp at hx
  | y :: r, p, h, x, hx => by
    rw [rightFrom] at h
    by_cases h1 : wrongF y false = 0
    · rw [if_neg (by simp [h1])] at h
      by_cases h2 : behindF p y.n = true
      · rw [if_pos h2] at h; cases h
      · rw [if_neg h2] at h
        rcases List.mem_cons.1 hx with rfl | hx
        · unfold wrongF at h1
          cases hn : namedF x.n with
          | true => exact named_ok hn
          | false => rw [if_pos hn] at h1; cases h1
        · exact right_names r _ h x hx
    · rw [if_pos h1] at h; exact (h1 h).elim
theorem isL_ne {c : UInt8} (h : isL c.toNat = true) : c ≠ 61 ∧ c ≠ 125 ∧ c ≠ 44 := by
  refine ⟨fun e => ?_, fun e => ?_, fun e => ?_⟩ <;> (subst e; revert h; decide)
theorem bodyN_inj : ∀ (l l' : List Lb), (∀ x ∈ l, NameOk x.n) → (∀ x ∈ l', NameOk x.n) → bodyN l ++ [125] = bodyN l' ++ [125] → l = l'
  | [], [], _, _, _ => rfl
  | [], y :: s, _, _, h => by simp [bodyN] at h
  | x :: r, [], _, _, h => by simp [bodyN] at h
  | x :: r, y :: s, h1, h2, h => by
    simp only [bodyN, List.cons_append, List.cons.injEq, true_and, entL, quoteF, List.append_assoc] at h
    have hx := h1 x (List.mem_cons_self ..)
    have hy := h2 y (List.mem_cons_self ..)
    obtain ⟨e1, h3⟩ := split_at 61 _ _ _ _ (fun hm => (isL_ne (hx.2 _ hm)).1 rfl) (fun hm => (isL_ne (hy.2 _ hm)).1 rfl) h
    simp only [List.cons.injEq, true_and, List.nil_append] at h3
    obtain ⟨e2, h4⟩ := esc_inj _ _ _ _ h3
    have ih := bodyN_inj r s (fun z hz => h1 z (List.mem_cons_of_mem _ hz)) (fun z hz => h2 z (List.mem_cons_of_mem _ hz)) h4
    have en : x.n = y.n := ByteArray.ext (Array.toList_inj.1 e1)
    have ev : x.v = y.v := ByteArray.ext (Array.toList_inj.1 e2)
    rw [ih, Lb.ext' en ev]
theorem print_inj {l l' : List Lb} (h1 : rightF l = 0) (h2 : rightF l' = 0) (h : printF l = printF l') : l = l' := by
  have r1 : rightFrom none l = 0 := by unfold rightF at h1; by_cases hl : 16 < l.length; rw [if_pos hl] at h1; cases h1; rwa [if_neg hl] at h1
  have r2 : rightFrom none l' = 0 := by unfold rightF at h2; by_cases hl : 16 < l'.length; rw [if_pos hl] at h2; cases h2; rwa [if_neg hl] at h2
  have n1 := right_names l _ r1
  have n2 := right_names l' _ r2
  have hb := congrArg (fun b : ByteArray => b.data.toList) h
  simp only [print_bytes, List.cons.injEq, true_and] at hb
  cases l with
  | nil =>
    cases l' with
    | nil => rfl
    | cons y s =>
      exfalso
      have hy := n2 y (List.mem_cons_self ..)
      cases hn : y.n.data.toList with
      | nil => exact hy.1 hn
      | cons c q =>
        simp [bodyL, entL, hn] at hb
  | cons x r =>
    cases l' with
    | nil =>
      exfalso
      have hx := n1 x (List.mem_cons_self ..)
      cases hn : x.n.data.toList with
      | nil => exact hx.1 hn
      | cons c q =>
        simp [bodyL, entL, hn] at hb
    | cons y s =>
      have := bodyN_inj (x :: r) (y :: s) n1 n2 (by simpa [bodyN, bodyL] using hb)
      exact this
end Go.Proofs.YtbjglcdoekbloaaGreatDoor

/- plain: a write that is planned and recorded. -/
namespace Go.Proofs.YtbjglcdoekbloaaGreatDoor
open Go.Proofs.YtbjglcdoekbloaaGreatDoor.MapRaw

/-- what holds of a head that writes have made -/
structure Inv (H : Hd) (N : Nat) : Prop where
  top : 0 ≤ H.top ∧ H.top ≤ (N : Int)
  len : H.ix.all.length ≤ N
  keys : ∀ r, (mget H.ix.all r).isSome = true → 1 ≤ r ∧ r ≤ H.top
  refs : ∀ s r, mget H.ix.refs s = some r → (mget H.ix.all r).isSome = true
  ptk : ∀ r, (mget H.pts r).isSome = true → r ≤ H.top
  pts : ∀ r, rightP ((mget H.pts r).getD []) = true ∧ ((mget H.pts r).getD []).length ≤ N
theorem Inv.start : Inv H0 0 := ⟨⟨by decide, by decide⟩, by decide, fun r h => by simp [H0, mget] at h, fun s r h => by simp [H0, mget] at h, fun r h => by simp [H0, mget] at h, fun r => ⟨by simp [H0, mget]; decide, by simp [H0, mget]⟩⟩

def bornRec (p : Int × List Lb) : Rec := ⟨1, IntKind.u32.wrap p.1, p.2, []⟩
theorem u32_wrap {n : Int} (h0 : 0 ≤ n) (h1 : n < 4294967296) : IntKind.u32.wrap n = n := by
  unfold IntKind.wrap; simp [IntKind.bits, IntKind.signed]; omega
/-- series more -/
def addAll (H : Hd) (bp : List (Int × List Lb)) : Hd := bp.foldl (fun H p => addH H p.1 p.2) H
/-- new series are recorded -/
structure BornOk (H : Hd) (bp : List (Int × List Lb)) (H1 : Hd) : Prop where
  rec_ : recAll (bp.map bornRec) H = (0, H1)
  top : H1.top = H.top + bp.length
  len : H1.ix.all.length = H.ix.all.length + bp.length
  all_old : ∀ r, (mget H.ix.all r).isSome = true → (mget H1.ix.all r).isSome = true
  all_new : ∀ p ∈ bp, (mget H1.ix.all p.1).isSome = true
  keys : ∀ r, (mget H1.ix.all r).isSome = true → (mget H.ix.all r).isSome = true ∨ ∃ p ∈ bp, p.1 = r
  refs_old : ∀ s r, mget H.ix.refs s = some r → mget H1.ix.refs s = some r
  refs_new : ∀ p ∈ bp, mget H1.ix.refs (printF p.2) = some p.1
  refs : ∀ s r, mget H1.ix.refs s = some r → mget H.ix.refs s = some r ∨ ∃ p ∈ bp, p.1 = r
  pts : ∀ r, (mget H1.pts r).getD [] = (mget H.pts r).getD []
  ptk : ∀ r, (mget H1.pts r).isSome = true → (mget H.pts r).isSome = true ∨ ∃ p ∈ bp, p.1 = r
  eq : H1 = addAll H bp
theorem born_one {H : Hd} {n : Int} {lab : List Lb} (hn : 1 ≤ n) (hn2 : n < 4294967296) (hr : rightF lab = 0) (ha : mget H.ix.all n = none) (hp : mget H.ix.refs (printF lab) = none) (hl : H.ix.all.length < 4096) : recordF H (bornRec (n, lab)) = (0, addH H n lab) := by
  have hw : IntKind.u32.wrap n = n := u32_wrap (by omega) hn2
  unfold bornRec
  simp only [hw]
  have hc : checkF ⟨1, n, lab, []⟩ = 0 := by
    unfold checkF
    rw [if_pos rfl, if_neg (by simp; omega)]; exact hr
  unfold recordF
  rw [if_neg (by simp [hc]), if_pos rfl]
  show seriesF H n lab = _
  unfold seriesF
  rw [if_neg (by rw [ha]; simp)]
  have he : addErr H.ix n lab = 0 := by
    unfold addErr
    rw [if_neg (by simp [hr]), if_neg (by simp [ha, hp]), if_neg (by omega)]
  unfold addR
  rw [if_neg (by simp [he])]
theorem born_ok : ∀ (bp : List (Int × List Lb)) (H : Hd), (∀ r, (mget H.ix.all r).isSome = true → r ≤ H.top) → (∀ r, (mget H.pts r).isSome = true → r ≤ H.top) → 0 ≤ H.top → (∀ (i : Nat) (p : Int × List Lb), bp[i]? = some p → p.1 = H.top + 1 + i) → (∀ p ∈ bp, rightF p.2 = 0) → bp.Pairwise (fun p q => p.2 ≠ q.2) → (∀ p ∈ bp, mget H.ix.refs (printF p.2) = none) → H.top + bp.length < 4294967296 → H.ix.all.length + bp.length ≤ 4096 → ∃ H1, BornOk H bp H1
  | [], H, _, _, _, _, _, _, _, _, _ => ⟨H, rfl, by simp, by simp, fun _ h => h, fun p hp => by simp at hp, fun _ h => .inl h, fun _ _ h => h, fun p hp => by simp at hp, fun _ _ h => .inl h, fun _ => rfl, fun _ h => .inl h, rfl⟩
  | (n, lab) :: bp, H, hk, hpk, h0, hnum, hri, hpw, hrf, htop, hlen => by
    have hn : n = H.top + 1 := by have := hnum 0 _ rfl; simpa using this
    simp only [List.length_cons] at htop hlen
    have ha : mget H.ix.all n = none := by
      cases hg : mget H.ix.all n with
      | none => rfl
      | some x => have := hk n (by rw [hg]; rfl); omega
    have hpn : mget H.pts n = none := by
      cases hg : mget H.pts n with
      | none => rfl
      | some x => have := hpk n (by rw [hg]; rfl); omega
    have hp : mget H.ix.refs (printF lab) = none := hrf (n, lab) (List.mem_cons_self ..)
    have hr : rightF lab = 0 := hri (n, lab) (List.mem_cons_self ..)
    have hone := born_one (H := H) (n := n) (by omega) (by omega) hr ha hp (by omega)
    have htop' : (addH H n lab).top = n := by show max H.top n = n; omega
    have hall' : ∀ r, mget (addH H n lab).ix.all r = if n = r then some lab else mget H.ix.all r := fun r => mget_put _ _ _ _
    have href' : ∀ s, mget (addH H n lab).ix.refs s = if printF lab = s then some n else mget H.ix.refs s := fun r => mget_put _ _ _ _
    have hpts' : ∀ r, mget (addH H n lab).pts r = if n = r then some [] else mget H.pts r := fun r => mget_put _ _ _ _
    have hlen' : (addH H n lab).ix.all.length = H.ix.all.length + 1 := by
      show (mput H.ix.all n lab).length = _
      rw [mput_length, ha]; rfl
    obtain ⟨hpw1, hpw2⟩ := List.pairwise_cons.1 hpw
    obtain ⟨H1, b⟩ := born_ok bp (addH H n lab) (fun r h => by
        rw [hall'] at h; rw [htop']
        by_cases e : n = r
        · omega
        · rw [if_neg e] at h; have := hk r h; omega)
      (fun r h => by
        rw [hpts'] at h; rw [htop']
        by_cases e : n = r
        · omega
        · rw [if_neg e] at h; have := hpk r h; omega)
      (by rw [htop']; omega)
      (fun i p h => by have := hnum (i + 1) p (by simpa using h); rw [htop']; push_cast at this; omega)
      (fun p h => hri p (List.mem_cons_of_mem _ h)) hpw2
      (fun p h => by
        rw [href']
        have hne : printF lab ≠ printF p.2 := fun e => hpw1 p h (print_inj hr (hri p (List.mem_cons_of_mem _ h)) e)
        rw [if_neg hne]; exact hrf p (List.mem_cons_of_mem _ h))
      (by rw [htop']; omega) (by rw [hlen']; omega)
    refine ⟨H1, ⟨?_, ?_, ?_, ?_, ?_, ?_, ?_, ?_, ?_, ?_, ?_, b.eq⟩⟩
    · rw [List.map_cons, recAll, hone]
      simp only [ne_eq, not_true_eq_false, if_false]
      exact b.rec_
    · rw [b.top, htop', List.length_cons]; push_cast; omega
    · rw [b.len, hlen', List.length_cons]; omega
    · intro r h
      refine b.all_old r ?_
      rw [hall']; split
      · rfl
      · exact h
    · intro p hp2
      rcases List.mem_cons.1 hp2 with rfl | hp2
      · exact b.all_old _ (by rw [hall', if_pos rfl]; rfl)
      · exact b.all_new p hp2
    · intro r h
      rcases b.keys r h with h | ⟨p, hp2, e⟩
      · rw [hall'] at h
        by_cases e : n = r
        · exact .inr ⟨(n, lab), List.mem_cons_self .., e⟩
        · rw [if_neg e] at h; exact .inl h
      · exact .inr ⟨p, List.mem_cons_of_mem _ hp2, e⟩
    · intro s r h
      refine b.refs_old s r ?_
      rw [href', if_neg (fun e => by rw [← e, hp] at h; cases h)]; exact h
    · intro p hp2
      rcases List.mem_cons.1 hp2 with rfl | hp2
      · exact b.refs_old _ _ (by rw [href', if_pos rfl])
      · exact b.refs_new p hp2
    · intro s r h
      rcases b.refs s r h with h | ⟨p, hp2, e⟩
      · rw [href'] at h
        by_cases e : printF lab = s
        · rw [if_pos e] at h; exact .inr ⟨(n, lab), List.mem_cons_self .., Option.some.inj h⟩
        · rw [if_neg e] at h; exact .inl h
      · exact .inr ⟨p, List.mem_cons_of_mem _ hp2, e⟩
    · intro r
      rw [b.pts r, hpts']
      by_cases e : n = r
      · rw [if_pos e, ← e, hpn]; rfl
      · rw [if_neg e]
    · intro r h
      rcases b.ptk r h with h | ⟨p, hp2, e⟩
      · rw [hpts'] at h
        by_cases e : n = r
        · exact .inr ⟨(n, lab), List.mem_cons_self .., e⟩
        · rw [if_neg e] at h; exact .inl h
      · exact .inr ⟨p, List.mem_cons_of_mem _ hp2, e⟩

/-! ### what look finds -/
structure LkOk (I : Ix) (top : Int) (ls : List (List Lb)) (s : Lk) (bp : List (Int × List Lb)) : Prop where
  born : s.born = bp.map bornRec
  tp : s.top = top + bp.length
  num : ∀ (i : Nat) (p : Int × List Lb), bp[i]? = some p → p.1 = top + 1 + i
  lab : ∀ p ∈ bp, p.2 ∈ ls ∧ refF I p.2 = none ∧ (p.2, p.1) ∈ s.prev
  pw : bp.Pairwise (fun p q => p.2 ≠ q.2)
  prev : ∀ q ∈ s.prev, refF I q.1 = some q.2 ∨ (q.2, q.1) ∈ bp
theorem look_ok (I : Ix) (top : Int) : ∀ (ls done : List (List Lb)) (s : Lk) (bp : List (Int × List Lb)), LkOk I top done s bp → ∃ bp', LkOk I top (done ++ ls) (ls.foldl (lookStep I) s) bp'
  | [], done, s, bp, h => ⟨bp, by simpa using h⟩
  | a :: ls, done, s, bp, h => by
    rw [List.foldl_cons]
    have hstep : ∃ bp', LkOk I top (done ++ [a]) (lookStep I s a) bp' := by
      cases hr : lookRef I s.prev a with
      | some n =>
        rw [lookStep_some hr]
        refine ⟨bp, h.born, h.tp, h.num, fun p hp => ?_, h.pw, fun q hq => ?_⟩
        · obtain ⟨h1, h2, h3⟩ := h.lab p hp
          exact ⟨List.mem_append_left _ h1, h2, List.mem_append_left _ h3⟩
        · rcases List.mem_append.1 hq with hq | hq
          · exact h.prev q hq
          · simp at hq; subst hq
            show refF I a = some n ∨ (n, a) ∈ bp
            unfold lookRef at hr
            by_cases hs : (refF I a).isSome = true
            · rw [if_pos hs] at hr; exact .inl hr
            · rw [if_neg hs] at hr
              obtain ⟨p, hp1, hp2⟩ := Option.map_eq_some_iff.1 hr
              have e1 : p.1 = a := by simpa using List.find?_some hp1
              have := h.prev p (List.mem_of_find?_eq_some hp1)
              rw [e1, hp2] at this
              exact this
      | none =>
        rw [lookStep_none hr]
        unfold lookRef at hr
        by_cases hs : (refF I a).isSome = true
        · rw [if_pos hs] at hr; rw [hr] at hs; cases hs
        · rw [if_neg hs] at hr
          have hra : refF I a = none := by simpa using hs
          have hno : ∀ p ∈ s.prev, p.1 ≠ a := by
            have : s.prev.find? (fun p => decide (p.1 = a)) = none := by simpa using hr
            intro p hp
            have := List.find?_eq_none.1 this p hp
            simpa using this
          refine ⟨bp ++ [(s.top + 1, a)], ?_, ?_, ?_, ?_, ?_, ?_⟩
          · rw [h.born]; simp [bornRec]
          · rw [h.tp]; simp; omega
          · intro i p hp
            by_cases hi : i < bp.length
            · rw [List.getElem?_append_left hi] at hp; exact h.num i p hp
            · have hi2 : i = bp.length := by
                have := (List.getElem?_eq_some_iff.1 hp).1
                simp at this; omega
              subst hi2
              simp at hp; subst hp
              show s.top + 1 = _
              rw [h.tp]; omega
          · intro p hp
            rcases List.mem_append.1 hp with hp | hp
            · obtain ⟨h1, h2, h3⟩ := h.lab p hp
              exact ⟨List.mem_append_left _ h1, h2, List.mem_append_left _ h3⟩
            · simp at hp; subst hp
              exact ⟨by simp, hra, by simp⟩
          · rw [List.pairwise_append]
            refine ⟨h.pw, by simp, fun p hp q hq => ?_⟩
            simp at hq; subst hq
            exact hno _ (h.lab p hp).2.2
          · intro q hq
            rcases List.mem_append.1 hq with hq | hq
            · exact (h.prev q hq).imp id (List.mem_append_left _)
            · simp at hq; subst hq
              exact .inr (by simp)
    obtain ⟨bp', h'⟩ := hstep
    obtain ⟨bp2, h2⟩ := look_ok I top ls (done ++ [a]) (lookStep I s a) bp' h'
    exact ⟨bp2, by simpa using h2⟩
theorem look_all (I : Ix) (top : Int) (ls : List (List Lb)) : ∃ bp, LkOk I top ls (lookAll I top ls) bp := by
  have h := look_ok I top ls [] ⟨[], [], top⟩ [] ⟨rfl, by simp, by simp, by simp, by simp, by simp⟩
  simpa [lookAll] using h

/-! ### which of two points counts -/
theorem best_self (p : Pt) (o : Option Pt) : aheadB p (bestP p o) = false := by
  cases o with
  | none => exact aheadB_self p
  | some q =>
    show aheadB p (if aheadB p q = true then p else q) = false
    cases h : aheadB p q with
    | true => rw [if_pos rfl]; exact aheadB_self p
    | false => rw [if_neg (by decide)]; exact h
theorem ahead_iff (p q : Pt) : aheadB p q = true ↔ p.S < q.S ∨ (p.S = q.S ∧ p.V < q.V) := by
  unfold aheadB
  by_cases e : p.S = q.S
  · rw [if_pos e]; simp; omega
  · rw [if_neg e]; simp; omega
theorem ahead_not (p q : Pt) : aheadB p q = false ↔ ¬ (p.S < q.S ∨ (p.S = q.S ∧ p.V < q.V)) := by
  rw [← ahead_iff]; simp
theorem best_keep {p q : Pt} (p2 : Pt) (h : aheadB p q = false) : aheadB p (bestP p2 (some q)) = false := by
  show aheadB p (if aheadB p2 q = true then p2 else q) = false
  by_cases h2 : aheadB p2 q = true
  · rw [if_pos h2]
    rw [ahead_iff] at h2
    rw [ahead_not] at h ⊢
    omega
  · rw [if_neg h2]; exact h
theorem ahead_le {p q : Pt} (h : aheadB p q = false) : q.S ≤ p.S := by
  unfold aheadB at h
  by_cases e : p.S = q.S
  · omega
  · rw [if_neg e] at h; simp at h; omega
structure GoodAll (seq : Int) (will : List (Int × List Pt)) (l : List (Po × Int)) : Prop where
  good : ∀ p ∈ l, ∃ m q, mget will p.2 = some m ∧ rightP m = true ∧ atP m p.1.T = some q ∧ aheadB (ptOf seq p.1) q = false
theorem wl_good (H : Hd) (seq : Int) : ∀ (l done : List (Po × Int)) (s : Wl), GoodAll seq s.will done → (wlAll H seq l s).1 = 0 → GoodAll seq (wlAll H seq l s).2.will (done ++ l)
  | [], done, s, h, _ => by simpa [wlAll] using h
  | p :: r, done, s, h, he => by
    rw [wlAll] at he ⊢
    by_cases h0 : (putF (nowF H s.will p.2) (ptOf seq p.1)).2.2 = 0
    · rw [if_neg (by simp [h0])] at he ⊢
      have hp := put_has h0
      have := wl_good H seq r (done ++ [p]) (wlNext H seq s p) ⟨fun q hq => ?_⟩ he
      · simpa using this
      · show ∃ m q', mget (mput s.will p.2 _) q.2 = some m ∧ _
        rw [mget_put]
        by_cases e : p.2 = q.2
        · rw [if_pos e]
          rcases List.mem_append.1 hq with hq | hq
          · obtain ⟨m, q', h1, h2, h3, h4⟩ := h.good q hq
            have hnow := nowF_some (H := H) (e ▸ h1)
            refine ⟨_, if q.1.T = (ptOf seq p.1).T then bestP (ptOf seq p.1) (some q') else q', rfl, hp.right, ?_, ?_⟩
            · rw [hp.at_, hnow]
              by_cases ht : q.1.T = (ptOf seq p.1).T
              · rw [if_pos ht, if_pos ht, ← ht, h3]
              · rw [if_neg ht, if_neg ht, h3]
            · by_cases ht : q.1.T = (ptOf seq p.1).T
              · rw [if_pos ht]; exact best_keep _ h4
              · rw [if_neg ht]; exact h4
          · simp at hq; subst hq
            exact ⟨_, _, rfl, hp.right, by rw [hp.at_]; exact if_pos rfl, best_self _ _⟩
        · rw [if_neg e]
          rcases List.mem_append.1 hq with hq | hq
          · exact h.good q hq
          · simp at hq; subst hq; exact (e rfl).elim
    · rw [if_pos h0] at he; exact (h0 he).elim

/-! ### the points are planned and recorded alike -/
structure WlOk (H : Hd) (seq : Int) (l : List (Po × Int)) (s s' : Wl) (es : List En) (m m' : List (Int × List Pt)) (B : Nat) : Prop where
  eq : wlAll H seq l s = (0, s')
  ents : s'.ents = s.ents ++ es
  put : putAll es m = (0, m')
  now : ∀ r, (mget m' r).getD [] = nowF H s'.will r
  right : ∀ r, rightP (nowF H s'.will r) = true ∧ (nowF H s'.will r).length ≤ B + l.length
  len : es.length ≤ l.length
  ref : ∀ x ∈ es, x.p.S = seq ∧ ∃ p ∈ l, x.ref = p.2
  key : ∀ r, (mget m' r).isSome = true → (mget m r).isSome = true ∨ ∃ p ∈ l, p.2 = r
  pt : ∀ x ∈ es, ∃ p ∈ l, x.ref = p.2 ∧ x.p = ptOf seq p.1
theorem nowF_put (H : Hd) (will : List (Int × List Pt)) (a r : Int) (x : List Pt) : nowF H (mput will a x) r = if a = r then x else nowF H will r := by
  unfold nowF; rw [mget_put]
  by_cases e : a = r
  · rw [if_pos e, if_pos e]; rfl
  · rw [if_neg e, if_neg e]
theorem wl_ok (H : Hd) (seq : Int) (hs : seq ≠ 0) : ∀ (l : List (Po × Int)) (s : Wl) (m : List (Int × List Pt)) (B : Nat), (∀ r, (mget m r).getD [] = nowF H s.will r) → (∀ r, rightP (nowF H s.will r) = true ∧ (nowF H s.will r).length ≤ B) → B + l.length < 65536 → (∀ p ∈ l, 0 ≤ p.2 ∧ p.2 < 4294967296) → ∃ s' es m', WlOk H seq l s s' es m m' B
  | [], s, m, B, hm, hr, _, _ => ⟨s, [], m, rfl, by simp, rfl, hm, fun r => by simpa using hr r, by simp, by simp, fun r h => .inl h, by simp⟩
  | p :: l, s, m, B, hm, hr, hB, hp => by
    simp only [List.length_cons] at hB
    obtain ⟨r1, r2⟩ := hr p.2
    obtain ⟨h0, ok⟩ := put_ok (p := ptOf seq p.1) r1 (by exact hs) (by omega)
    have hpu := hp p (List.mem_cons_self ..)
    have hw : IntKind.u32.wrap p.2 = p.2 := u32_wrap hpu.1 hpu.2
    generalize hrr : putF (nowF H s.will p.2) (ptOf seq p.1) = rr at h0 ok
    have hnext : wlNext H seq s p = ⟨mput s.will p.2 rr.1, if rr.1 = nowF H s.will p.2 then s.ents else s.ents ++ [⟨p.2, ptOf seq p.1⟩]⟩ := by unfold wlNext; rw [hrr, hw]
    have heq : wlAll H seq (p :: l) s = wlAll H seq l (wlNext H seq s p) := by rw [wlAll, hrr, if_neg (by simp [h0])]
    have hright : ∀ r, rightP (nowF H (mput s.will p.2 rr.1) r) = true ∧ (nowF H (mput s.will p.2 rr.1) r).length ≤ B + 1 := fun r => by
      rw [nowF_put]
      by_cases e : p.2 = r
      · rw [if_pos e]; exact ⟨ok.right, by have := ok.len; omega⟩
      · rw [if_neg e]; have := hr r; exact ⟨this.1, by omega⟩
    have hpl : ∀ q ∈ l, 0 ≤ q.2 ∧ q.2 < 4294967296 := fun q hq => hp q (List.mem_cons_of_mem _ hq)
    by_cases hsame : rr.1 = nowF H s.will p.2
    · rw [if_pos hsame] at hnext
      obtain ⟨s', es, m', k⟩ := wl_ok H seq hs l (wlNext H seq s p) m (B + 1) (fun r => by
          rw [hnext]; show _ = nowF H (mput s.will p.2 rr.1) r
          rw [nowF_put]
          by_cases e : p.2 = r
          · rw [if_pos e, hsame, ← e]; exact hm p.2
          · rw [if_neg e]; exact hm r) (by rw [hnext]; exact hright) (by omega) hpl
      refine ⟨s', es, m', heq.trans k.eq, by rw [k.ents, hnext], k.put, k.now, fun r => ⟨(k.right r).1, by have := (k.right r).2; simp only [List.length_cons]; omega⟩, by have := k.len; simp only [List.length_cons]; omega, fun x hx => ?_, fun r h => ?_, fun x hx => ?_⟩
      · obtain ⟨a, q, b, c⟩ := k.ref x hx
        exact ⟨a, q, List.mem_cons_of_mem _ b, c⟩
      · exact (k.key r h).imp id (fun ⟨q, a, b⟩ => ⟨q, List.mem_cons_of_mem _ a, b⟩)
      · obtain ⟨q, a, b⟩ := k.pt x hx
        exact ⟨q, List.mem_cons_of_mem _ a, b⟩
    · rw [if_neg hsame] at hnext
      obtain ⟨s', es, m', k⟩ := wl_ok H seq hs l (wlNext H seq s p) (mput m p.2 rr.1) (B + 1) (fun r => by
          rw [hnext]; show _ = nowF H (mput s.will p.2 rr.1) r
          rw [nowF_put, mget_put]
          by_cases e : p.2 = r
          · rw [if_pos e, if_pos e]; rfl
          · rw [if_neg e, if_neg e]; exact hm r) (by rw [hnext]; exact hright) (by omega) hpl
      refine ⟨s', ⟨p.2, ptOf seq p.1⟩ :: es, m', heq.trans k.eq, by rw [k.ents, hnext]; simp, ?_, k.now, fun r => ⟨(k.right r).1, by have := (k.right r).2; simp only [List.length_cons]; omega⟩, by have := k.len; simp only [List.length_cons]; omega, fun x hx => ?_, fun r h => ?_, fun x hx => ?_⟩
      · rw [putAll]
        show (if (putF ((mget m p.2).getD []) (ptOf seq p.1)).2.2 ≠ 0 then _ else _) = _
        rw [hm p.2, hrr, if_neg (by simp [h0])]
        exact k.put
      · rcases List.mem_cons.1 hx with rfl | hx
        · exact ⟨rfl, p, List.mem_cons_self .., rfl⟩
        · obtain ⟨a, q, b, c⟩ := k.ref x hx
          exact ⟨a, q, List.mem_cons_of_mem _ b, c⟩
      · rcases k.key r h with h | ⟨q, a, b⟩
        · rw [mget_put] at h
          by_cases e : p.2 = r
          · exact .inr ⟨p, List.mem_cons_self .., e⟩
          · rw [if_neg e] at h; exact .inl h
        · exact .inr ⟨q, List.mem_cons_of_mem _ a, b⟩
      · rcases List.mem_cons.1 hx with rfl | hx
        · exact ⟨p, List.mem_cons_self .., rfl, rfl⟩
        · obtain ⟨q, a, b⟩ := k.pt x hx
          exact ⟨q, List.mem_cons_of_mem _ a, b⟩
end Go.Proofs.YtbjglcdoekbloaaGreatDoor

/- plain: one write, planned and recorded: what becomes of the head, and of the marks. -/
namespace Go.Proofs.YtbjglcdoekbloaaGreatDoor
open Go.Proofs.YtbjglcdoekbloaaGreatDoor.MapRaw

structure MarkGood (H' : Hd) (seq : Int) (x : Po) (mk : Mk) : Prop where
  ex : ∃ lp q, getF H' x.lab = some lp ∧ lp.length ≤ 65536 ∧ hasP lp x.T = true ∧ lp[lowP lp x.T]? = some q ∧ mk.at_ = x.at_ ∧ mk.ok = decide (q.V = x.V) ∧ q.S ≤ seq
theorem labs_ok : ∀ (l : List Po), labsErr l = 0 → ∀ x ∈ l, rightF x.lab = 0
  | [], _, x, hx => by simp at hx
  | y :: r, h, x, hx => by
    rw [labsErr] at h
    by_cases h1 : rightF y.lab = 0
    · rw [if_neg (by simp [h1])] at h
      rcases List.mem_cons.1 hx with rfl | hx
      · exact h1
      · exact labs_ok r h x hx
    · rw [if_pos h1] at h; exact (h1 h).elim
theorem recAll_append : ∀ (a b : List Rec) (H H1 : Hd), recAll a H = (0, H1) → recAll (a ++ b) H = recAll b H1
  | [], b, H, H1, h => by simp [recAll] at h; rw [h]; rfl
  | r :: a, b, H, H1, h => by
    rw [List.cons_append, recAll]
    rw [recAll] at h
    by_cases h0 : (recordF H r).1 = 0
    · rw [if_neg (by simp [h0])] at h ⊢; exact recAll_append a b _ _ h
    · rw [if_pos h0] at h; exact (h0 (Prod.mk.inj h).1).elim
theorem sz_right {l : List Lb} (h : rightF l = 0) : SzL l := by
  have r : rightFrom none l = 0 := by unfold rightF at h; by_cases hl : 16 < l.length; rw [if_pos hl] at h; cases h; rwa [if_neg hl] at h
  have key : ∀ (l : List Lb) (p : Option ByteArray), rightFrom p l = 0 → SzL l := by
    intro l
    induction l with
    | nil => intro p _ x hx; simp at hx
    | cons y r ih =>
      intro p h x hx
      rw [rightFrom] at h
      by_cases h1 : wrongF y false = 0
      · rw [if_neg (by simp [h1])] at h
        by_cases h2 : behindF p y.n = true
        · rw [if_pos h2] at h; cases h
        · rw [if_neg h2] at h
          rcases List.mem_cons.1 hx with rfl | hx
          · unfold wrongF at h1
            cases hn : namedF x.n with
            | false => rw [if_pos hn] at h1; cases h1
            | true =>
              cases hv : valuedF x.v with
              | false => rw [if_neg (by simp [hn]), if_pos hv] at h1; cases h1
              | true =>
                unfold namedF at hn
                unfold valuedF at hv
                simp only [Bool.and_eq_true, decide_eq_true_eq] at hn hv
                simp only [maxLen]
                omega
          · exact ih _ h x hx
      · rw [if_pos h1] at h; exact (h1 h).elim
  exact key l none r
theorem refF_some {I : Ix} {lab : List Lb} {n : Int} (h : refF I lab = some n) : rightF lab = 0 ∧ mget I.refs (printF lab) = some n := by
  unfold refF at h
  by_cases hr : rightF lab = 0
  · rw [if_pos hr] at h; exact ⟨hr, h⟩
  · rw [if_neg hr] at h; cases h
theorem refF_of {I : Ix} {lab : List Lb} {n : Int} (hr : rightF lab = 0) (h : mget I.refs (printF lab) = some n) : refF I lab = some n := by unfold refF; rw [if_pos hr, h]

/-- a write that may be -/
def GoodW (x : Wr) : Prop := x.posts.length ≤ 16 ∧ x.seq ≠ 0 ∧ labsErr x.posts = 0
/-- how a write came about -/
structure DoneMore (H : Hd) (x : Wr) (recs : List Rec) (H' : Hd) (bp : List (Int × List Lb)) (s' : Wl) (es : List En) : Prop where
  lk : LkOk H.ix H.top (x.posts.map Po.lab) (lookAll H.ix H.top (x.posts.map Po.lab)) bp
  prev : (lookAll H.ix H.top (x.posts.map Po.lab)).prev.map (·.1) = x.posts.map Po.lab
  wl : wlAll H x.seq (x.posts.zip (lookAll H.ix H.top (x.posts.map Po.lab)).of) ⟨[], []⟩ = (0, s')
  ix : H'.ix = (addAll H bp).ix
  put : putAll es (addAll H bp).pts = (0, H'.pts)
  now : ∀ r, (mget H'.pts r).getD [] = nowF H s'.will r
  pt : ∀ e ∈ es, ∃ p ∈ x.posts.zip (lookAll H.ix H.top (x.posts.map Po.lab)).of, e.ref = p.2 ∧ e.p = ptOf x.seq p.1
  recs : recs = bp.map bornRec ++ (if es = [] then [] else [⟨2, 0, [], es⟩])
  chk : es ≠ [] → checkF ⟨2, 0, [], es⟩ = 0
  born : BornOk H bp (addAll H bp)
  len : es.length ≤ 16
/-- WHAT A WRITE COMES TO -/
structure Done (H : Hd) (N : Nat) (x : Wr) (rl : List Rec) (marks : List Mk) (H' : Hd) : Prop where
  plan : planF H x.seq x.posts = (rl, marks, 0)
  rec_ : recAll rl H = (0, H')
  len : marks.length = x.posts.length
  len16 : marks.length ≤ 16
  fit : ∀ r ∈ rl, RecFit r
  recs : rl.length ≤ 100
  inv : Inv H' (N + 16)
  good : ∀ (i : Nat) (h1 : i < marks.length) (h2 : i < x.posts.length), MarkGood H' x.seq x.posts[i] marks[i]
  more : ∃ bp s' es, DoneMore H x rl H' bp s' es
theorem write_ok2 {H : Hd} {N : Nat} (hI : Inv H N) (hN : N ≤ 400) (x : Wr) : (¬ GoodW x ∧ ∃ n, n ≠ 0 ∧ planF H x.seq x.posts = ([], [], n)) ∨ (GoodW x ∧ ∃ recs marks H', Done H N x recs marks H') := by
  obtain ⟨seq, v, posts⟩ := x
  simp only
  by_cases h16 : 16 < posts.length
  · exact .inl ⟨fun h => by have := h.1; simp only at this; omega, 3, by decide, by unfold planF; rw [if_pos h16]⟩
  by_cases h0 : seq = 0
  · exact .inl ⟨fun h => h.2.1 h0, 1, by decide, by unfold planF; rw [if_neg h16, if_pos h0]⟩
  by_cases hl' : labsErr posts ≠ 0
  · exact .inl ⟨fun h => hl' h.2.2, _, hl', by unfold planF; rw [if_neg h16, if_neg h0, if_pos hl']⟩
  have hl : labsErr posts = 0 := by simpa using hl'
  right
  refine ⟨⟨by simp only; omega, h0, hl⟩, ?_⟩
  have hri := labs_ok posts hl
  obtain ⟨bp, hk⟩ := look_all H.ix H.top (posts.map Po.lab)
  have hpv := look_prev H.ix H.top (posts.map Po.lab)
  generalize hs : lookAll H.ix H.top (posts.map Po.lab) = s at hk hpv
  have hpl : s.prev.length = posts.length := by have := congrArg List.length hpv.1; simpa using this
  have hol : s.of.length = posts.length := by unfold Lk.of; simp [hpl]
  have hbl : bp.length ≤ 16 := by have := hpv.2.2.2; rw [hk.born] at this; simp at this; omega
  have htop := hI.top
  -- the numbers
  have hprev : ∀ q ∈ s.prev, 1 ≤ q.2 ∧ q.2 ≤ H.top + bp.length := fun q hq => by
    rcases hk.prev q hq with h | h
    · have := hI.keys q.2 (hI.refs _ _ (refF_some h).2); omega
    · obtain ⟨i, hi⟩ := List.getElem?_of_mem h
      have h1 := hk.num i _ hi
      have h2 := (List.getElem?_eq_some_iff.1 hi).1
      simp only at h1
      omega
  -- there is room
  have hfull : fullF H (plOf s) = false := by
    unfold fullF roomB
    have e1 : (plOf s).born.length = bp.length := by unfold plOf; rw [hk.born]; simp
    have e2 : (plOf s).top = H.top + bp.length := by unfold plOf; exact hk.tp
    have e3 : (plOf s).of = s.of := rfl
    rw [e1, e2, e3]
    have h1 : decide ((4096 : Int) < (H.ix.all.length : Int) + (bp.length : Int)) = false := decide_eq_false (by have := hI.len; omega)
    have h2 : decide ((4294967295 : Int) < H.top + (bp.length : Int)) = false := decide_eq_false (by omega)
    rw [h1, h2]
    simp only [Bool.or_self, Bool.false_or]
    rw [List.any_eq_false]
    intro r _
    unfold tooB
    rw [e3]
    have h3 := (hI.pts r).2
    have h4 := cntF_le s.of r
    simp
    omega
  -- new series are recorded
  obtain ⟨H1, b⟩ := born_ok bp H (fun r h => (hI.keys r h).2) hI.ptk htop.1 hk.num (fun p hp => by
      obtain ⟨h1, _, _⟩ := hk.lab p hp
      obtain ⟨y, hy, e⟩ := List.mem_map.1 h1
      rw [← e]; exact hri y hy) hk.pw (fun p hp => by
      obtain ⟨h1, h2, _⟩ := hk.lab p hp
      obtain ⟨y, hy, e⟩ := List.mem_map.1 h1
      unfold refF at h2
      rw [if_pos (by rw [← e]; exact hri y hy)] at h2
      exact h2) (by omega) (by have := hI.len; omega)
  -- the points
  have hzl : (posts.zip s.of).length = posts.length := by rw [List.length_zip, hol, Nat.min_self]
  have hzm : ∀ p ∈ posts.zip s.of, ∃ q ∈ s.prev, q.2 = p.2 := fun p hp => by
    obtain ⟨_, h2⟩ := List.of_mem_zip (a := p.1) (b := p.2) hp
    obtain ⟨q, hq, e⟩ := List.mem_map.1 h2
    exact ⟨q, hq, e⟩
  obtain ⟨s', es, m', wk⟩ := wl_ok H seq h0 (posts.zip s.of) ⟨[], []⟩ H1.pts N (fun r => by rw [b.pts r]; rfl) (fun r => hI.pts r) (by rw [hzl]; omega) (fun p hp => by
    obtain ⟨q, hq, e⟩ := hzm p hp
    have := hprev q hq
    rw [← e]; omega)
  have hgood := wl_good H seq (posts.zip s.of) [] ⟨[], []⟩ ⟨by simp⟩ (by rw [wk.eq])
  rw [wk.eq, List.nil_append] at hgood
  have hents : s'.ents = es := by rw [wk.ents]; rfl
  have hkeys1 : ∀ r, (mget H1.ix.all r).isSome = true → 1 ≤ r ∧ r ≤ H1.top := fun r h => by
    rw [b.top]
    rcases b.keys r h with h | ⟨p, hp, e⟩
    · have := hI.keys r h; omega
    · obtain ⟨i, hi⟩ := List.getElem?_of_mem hp
      have h1 := hk.num i _ hi
      have h2 := (List.getElem?_eq_some_iff.1 hi).1
      omega
  have hofall : ∀ q ∈ s.prev, (mget H1.ix.all q.2).isSome = true ∧ mget H1.ix.refs (printF q.1) = some q.2 ∧ rightF q.1 = 0 := fun q hq => by
    rcases hk.prev q hq with h | h
    · obtain ⟨g1, g2⟩ := refF_some h
      exact ⟨b.all_old _ (hI.refs _ _ g2), b.refs_old _ _ g2, g1⟩
    · refine ⟨b.all_new _ h, b.refs_new _ h, ?_⟩
      obtain ⟨h1, _, _⟩ := hk.lab _ h
      obtain ⟨y, hy, e⟩ := List.mem_map.1 h1
      simp only at e
      rw [← e]; exact hri y hy
  have hrecp : recAll (if es = [] then [] else [⟨2, 0, [], es⟩]) H1 = (0, ⟨H1.ix, m', H1.top⟩) := by
    have hput := wk.put
    by_cases he : es = []
    · rw [if_pos he]
      rw [he] at hput
      simp only [putAll, Prod.mk.injEq, true_and] at hput
      rw [← hput]; rfl
    · rw [if_neg he, recAll]
      have hlen : es.length ≤ 16 := by have := wk.len; rw [hzl] at this; omega
      have hc : checkF ⟨2, 0, [], es⟩ = 0 := by
        unfold checkF
        rw [if_neg (show ¬ (2 : Int) = 1 by decide), if_pos rfl, if_neg (by simp [he]), if_neg (by simp only; omega)]
        unfold anyBad
        rw [if_neg]
        simp only [Bool.not_eq_true]
        rw [List.any_eq_false]
        intro y hy
        obtain ⟨h1, p, hp, h2⟩ := wk.ref y hy
        obtain ⟨q, hq, e⟩ := hzm p hp
        have := hprev q hq
        unfold badEn
        simp
        omega
      have hrec : recordF H1 ⟨2, 0, [], es⟩ = (0, ⟨H1.ix, m', H1.top⟩) := by
        unfold recordF
        rw [if_neg (by simp [hc]), if_neg (show ¬ (2 : Int) = 1 by decide)]
        unfold ptsF
        have hlost : es.any (lostB H1) = false := by
          rw [List.any_eq_false]
          intro y hy
          obtain ⟨_, p, hp, h2⟩ := wk.ref y hy
          obtain ⟨q, hq, e⟩ := hzm p hp
          have := (hofall q hq).1
          rw [e, ← h2] at this
          unfold lostB
          cases hg : mget H1.ix.all y.ref with
          | none => rw [hg] at this; cases this
          | some z => simp
        have hmuch : es.any (muchB H1 es) = false := by
          rw [List.any_eq_false]
          intro y hy
          unfold muchB
          have h3 := (hI.pts y.ref).2
          have h4 := cntF_le (es.map En.ref) y.ref
          rw [b.pts]
          simp at *
          omega
        rw [if_neg (by simp [hlost]), if_neg (by simp [hmuch]), hput]
      rw [hrec]
      simp only [ne_eq, not_true_eq_false, if_false]
      rfl
  have hrecs : recsOf s.born s'.ents = bp.map bornRec ++ (if es = [] then [] else [⟨2, 0, [], es⟩]) := by
    unfold recsOf
    rw [hents, hk.born]
    by_cases he : es = []
    · rw [if_pos he, if_pos he, List.append_nil]
    · rw [if_neg he, if_neg he]
  have hplan : planF H seq posts = (recsOf s.born s'.ents, (posts.zip s.of).map (markOf s'.will), 0) := by
    unfold planF
    rw [if_neg h16, if_neg h0, if_neg (by simp [hl]), hs, hfull, if_neg (by decide), wk.eq, if_neg (by simp)]
  have hnow : ∀ r, (mget m' r).getD [] = nowF H s'.will r := wk.now
  have hchk : es ≠ [] → checkF ⟨2, 0, [], es⟩ = 0 := fun he => by
    have hlen : es.length ≤ 16 := by have := wk.len; rw [hzl] at this; omega
    unfold checkF
    rw [if_neg (show ¬ (2 : Int) = 1 by decide), if_pos rfl, if_neg (by simp [he]), if_neg (by simp only; omega)]
    unfold anyBad
    rw [if_neg]
    simp only [Bool.not_eq_true]
    rw [List.any_eq_false]
    intro y hy
    obtain ⟨h1, p, hp, h2⟩ := wk.ref y hy
    obtain ⟨q, hq, e⟩ := hzm p hp
    have := hprev q hq
    unfold badEn
    simp
    omega
  refine ⟨_, _, ⟨H1.ix, m', H1.top⟩, ⟨hplan, ?_, ?_, ?_, ?_, ?_, ?_, ?_, ⟨bp, s', es, ?_⟩⟩⟩
  · rw [hrecs, recAll_append _ _ _ _ b.rec_, hrecp]
  · rw [List.length_map, hzl]
  · rw [List.length_map, hzl]; omega
  · intro r hr
    rw [hrecs] at hr
    rcases List.mem_append.1 hr with hr | hr
    · obtain ⟨p, hp, e⟩ := List.mem_map.1 hr
      subst e
      obtain ⟨h1, _, _⟩ := hk.lab p hp
      obtain ⟨y, hy, e⟩ := List.mem_map.1 h1
      obtain ⟨i, hi⟩ := List.getElem?_of_mem hp
      have h2 := hk.num i _ hi
      have h3 := (List.getElem?_eq_some_iff.1 hi).1
      have hw : IntKind.u32.wrap p.1 = p.1 := u32_wrap (by omega) (by omega)
      refine ⟨?_, ?_, fun y hy => by simp [bornRec] at hy⟩
      · show U32 (IntKind.u32.wrap p.1)
        rw [hw]; exact ⟨by omega, by omega⟩
      · show SzL p.2
        rw [← e]; exact sz_right (hri y hy)
    · by_cases he : es = []
      · rw [if_pos he] at hr; simp at hr
      · rw [if_neg he] at hr
        simp at hr; subst hr
        refine ⟨⟨(show (0 : Int) ≤ 0 by decide), (show (0 : Int) < 4294967296 by decide)⟩, fun y hy => by simp at hy, fun y hy => ?_⟩
        obtain ⟨_, p, hp, h2⟩ := wk.ref y hy
        obtain ⟨q, hq, e⟩ := hzm p hp
        have := hprev q hq
        exact ⟨by omega, by omega⟩
  · rw [hrecs, List.length_append, List.length_map]
    split <;> simp <;> omega
  · refine ⟨⟨?_, ?_⟩, ?_, hkeys1, ?_, ?_, ?_⟩
    · show 0 ≤ H1.top; rw [b.top]; omega
    · show H1.top ≤ _; rw [b.top]; push_cast; omega
    · show H1.ix.all.length ≤ _; rw [b.len]; have := hI.len; omega
    · intro t r h
      rcases b.refs t r h with h | ⟨p, hp, e⟩
      · exact b.all_old _ (hI.refs _ _ h)
      · rw [← e]; exact b.all_new p hp
    · intro r h
      show r ≤ H1.top
      rw [b.top]
      rcases wk.key r h with h | ⟨p, hp, e⟩
      · rcases b.ptk r h with h | ⟨p, hp, e⟩
        · have := hI.ptk r h; omega
        · obtain ⟨i, hi⟩ := List.getElem?_of_mem hp
          have h1 := hk.num i _ hi
          have h2 := (List.getElem?_eq_some_iff.1 hi).1
          omega
      · obtain ⟨q, hq, e2⟩ := hzm p hp
        have := hprev q hq
        omega
    · intro r
      show rightP ((mget m' r).getD []) = true ∧ ((mget m' r).getD []).length ≤ _
      rw [hnow r]
      have := wk.right r
      exact ⟨this.1, by have := this.2; rw [hzl] at this; omega⟩
  · intro i h1 h2
    have hiz : i < (posts.zip s.of).length := by rw [hzl]; exact h2
    have hio : i < s.of.length := by rw [hol]; exact h2
    have hip : i < s.prev.length := by rw [hpl]; exact h2
    have hpi : (posts.zip s.of)[i] = (posts[i], s.of[i]) := List.getElem_zip
    have hmi : ((posts.zip s.of).map (markOf s'.will))[i] = markOf s'.will (posts[i], s.of[i]) := by rw [List.getElem_map, hpi]
    have hqi : s.prev[i] = (posts[i].lab, s.of[i]) := by
      have e1 : s.of[i] = s.prev[i].2 := List.getElem_map _
      have e2 : s.prev[i].1 = posts[i].lab := by
        have := congrArg (fun l => l[i]?) hpv.1
        simp [List.getElem?_eq_getElem hip, List.getElem?_eq_getElem h2] at this
        exact this
      rw [e1, ← e2]
    have hq := List.getElem_mem hip
    rw [hqi] at hq
    obtain ⟨g1, g2, g3⟩ := hofall _ hq
    obtain ⟨mm, q, k1, k2, k3, k4⟩ := hgood.good _ (List.getElem_mem hiz)
    rw [hpi] at k1 k3 k4
    simp only at k1 k3 k4 g1 g2 g3
    obtain ⟨⟨_, hrm⟩, hlm⟩ := (rightP_iff mm).1 k2
    have hh : hasP mm posts[i].T = true := by rw [has_at hrm, k3]; rfl
    obtain ⟨q2, hq2, _, hqa⟩ := (at_low hrm _).1 hh
    rw [k3] at hqa
    cases hqa
    refine ⟨mm, q, ?_, hlm, hh, hq2, ?_, ?_, ?_⟩
    · unfold getF
      rw [refF_of g3 g2]
      show some ((mget m' s.of[i]).getD []) = some mm
      rw [hnow, nowF_some k1]
    · rw [hmi]; rfl
    · rw [hmi]; unfold markOf; rw [k1, Option.getD_some, k3]
    · have := ahead_le k4
      exact this
  · have hb := b
    have e1 := b.eq
    rw [e1] at hb
    refine ⟨by rw [hs]; exact hk, by rw [hs]; exact hpv.1, by rw [hs]; exact wk.eq, by rw [← e1], by rw [← e1]; exact wk.put, hnow, by rw [hs]; exact wk.pt, hrecs, hchk, hb, by have := wk.len; rw [hzl] at this; omega⟩
theorem write_ok {H : Hd} {N : Nat} (hI : Inv H N) (hN : N ≤ 400) (x : Wr) : (∃ n, n ≠ 0 ∧ planF H x.seq x.posts = ([], [], n)) ∨ ∃ recs marks H', Done H N x recs marks H' :=
  (write_ok2 hI hN x).imp (·.2) (·.2)
end Go.Proofs.YtbjglcdoekbloaaGreatDoor
