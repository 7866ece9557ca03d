import Derived.Test.YtbjglcdoekbloaaGreatDoorGRwA
set_option linter.unusedSimpArgs false
set_option linter.unusedVariables false
set_option linter.unusedSectionVars false
/- plain: the document's Plan; how it finds and makes series, beside the head's look. -/
namespace Go.Proofs.YtbjglcdoekbloaaGreatDoor
open Go.Proofs.YtbjglcdoekbloaaGreatDoor.MapRaw

def maxK (K : List Ky) : Int := K.foldl (fun m k => max m k.1) 0
def nextK (K : List Ky) : Int := K.foldl (fun m k => max m (k.1 + 1)) 1
theorem next_max (K : List Ky) : nextK K = maxK K + 1 := by
  have h : ∀ (K : List Ky) (a : Int), K.foldl (fun m k => max m (k.1 + 1)) (a + 1) = K.foldl (fun m k => max m k.1) a + 1 := by
    intro K
    induction K with
    | nil => intro a; rfl
    | cons k K ih =>
      intro a
      rw [List.foldl_cons, List.foldl_cons, ← ih]
      congr 1
      omega
  exact h K 0
theorem max_le {K : List Ky} : (∀ k ∈ K, k.1 ≤ maxK K) ∧ 0 ≤ maxK K := by
  have h : ∀ (K : List Ky) (a : Int), a ≤ K.foldl (fun m k => max m k.1) a ∧ ∀ k ∈ K, k.1 ≤ K.foldl (fun m k => max m k.1) a := by
    intro K
    induction K with
    | nil => intro a; exact ⟨Int.le_refl _, fun k hk => by simp at hk⟩
    | cons k K ih =>
      intro a
      rw [List.foldl_cons]
      obtain ⟨i1, i2⟩ := ih (max a k.1)
      refine ⟨by omega, fun y hy => ?_⟩
      rcases List.mem_cons.1 hy with rfl | hy
      · omega
      · exact i2 y hy
  exact ⟨(h K 0).2, (h K 0).1⟩
theorem max_add (K : List Ky) (x : Ky) : maxK (K ++ [x]) = max (maxK K) x.1 := by
  unfold maxK; rw [List.foldl_append]; rfl
def hasLab (K : List Ky) (lab : List Lb) : Bool := K.any fun k => decide (k.2.1 = lab)
def keyOf (K : List Ky) (lab : List Lb) : Option Ky := K.find? fun k => decide (k.2.1 = lab)
theorem has_key (K : List Ky) (lab : List Lb) : hasLab K lab = (keyOf K lab).isSome := by
  unfold hasLab keyOf
  rw [Bool.eq_iff_iff, List.any_eq_true, List.find?_isSome]
theorem key_some {K : List Ky} {lab : List Lb} {k : Ky} (h : keyOf K lab = some k) : k ∈ K ∧ k.2.1 = lab := ⟨List.mem_of_find?_eq_some h, by simpa using List.find?_some h⟩
theorem key_app (K : List Ky) (x : Ky) (lab : List Lb) : keyOf (K ++ [x]) lab = (keyOf K lab).or (if x.2.1 = lab then some x else none) := by
  unfold keyOf
  rw [List.find?_append]
  congr 1
  by_cases e : x.2.1 = lab
  · simp [e]
  · simp [e]
def bornStep (s : List Ky × List Rec) (lab : List Lb) : List Ky × List Rec :=
  if hasLab s.1 lab = true then s else (addL s.1 (nextK s.1, lab, []), s.2 ++ [⟨1, nextK s.1, lab, []⟩])
def bornAll (K : List Ky) (ls : List (List Lb)) : List Ky × List Rec := ls.foldl bornStep (K, [])
def wrapR (r : Rec) : Rec := ⟨r.kind, IntKind.u32.wrap r.ref, r.lab, r.pts⟩
theorem look_app (I : Ix) (prev : List (List Lb × Int)) (a : List Lb) (n : Int) (lab : List Lb) : lookRef I (prev ++ [(a, n)]) lab = (lookRef I prev lab).or (if (refF I lab).isSome = true then none else if a = lab then some n else none) := by
  unfold lookRef
  by_cases h : (refF I lab).isSome = true
  · rw [if_pos h, if_pos h, if_pos h]
    cases hr : refF I lab with
    | none => rw [hr] at h; cases h
    | some q => rfl
  · rw [if_neg h, if_neg h, if_neg h, List.find?_append]
    cases hf : prev.find? (fun p => decide (p.1 = lab)) with
    | some p => rfl
    | none =>
      by_cases e : a = lab
      · simp [e]
      · simp [e]
/-- the head's look, and the document's series -/
structure Sim (H : Hd) (K : List Ky) (s : Lk) (b : List Ky × List Rec) : Prop where
  top : s.top = maxK b.1
  born : s.born = b.2.map wrapR
  look : ∀ lab, rightF lab = 0 → lookRef H.ix s.prev lab = (keyOf b.1 lab).map (·.1)
  prev : ∀ q ∈ s.prev, ∃ k, keyOf b.1 q.1 = some k ∧ k.1 = q.2
  rise : RiseK b.1
  pts : ∀ k ∈ b.1, (mget H.pts k.1).getD [] = k.2.2
  ext : ∃ N, b.1 = K ++ N ∧ (∀ k ∈ N, maxK K < k.1 ∧ k.2.2 = [] ∧ rightF k.2.1 = 0) ∧ N.length = b.2.length
  recs : ∀ r ∈ b.2, r.kind = 1 ∧ 1 ≤ r.ref ∧ r.ref ≤ maxK b.1 ∧ r.pts = [] ∧ rightF r.lab = 0
theorem Sim.start {H : Hd} {K : List Ky} (h : OfH H K) (ht : H.top = maxK K) : Sim H K ⟨[], [], H.top⟩ (K, []) := by
  refine ⟨ht, rfl, fun lab hr => ?_, fun q hq => by simp at hq, h.rise, fun k hk => ((h.mem k).1 hk).2, ⟨[], by simp, by simp, rfl⟩, by simp⟩
  unfold lookRef
  have hgr : ∀ r, refF H.ix lab = some r ↔ ∃ k ∈ K, k.2.1 = lab ∧ k.1 = r := by
    intro r
    constructor
    · intro hs
      obtain ⟨g1, g2⟩ := refF_some hs
      obtain ⟨l', h1, h2⟩ := h.inv.ref _ _ g2
      have : l' = lab := print_inj (h.inv.lab _ _ h1).1 hr h2
      subst this
      exact ⟨(r, l', (mget H.pts r).getD []), (h.mem _).2 ⟨h1, rfl⟩, rfl, rfl⟩
    · rintro ⟨k, hk, rfl, rfl⟩
      exact refF_of hr (h.inv.lab _ _ ((h.mem k).1 hk).1).2
  cases hk : keyOf K lab with
  | none =>
    have hn : refF H.ix lab = none := by
      cases hs : refF H.ix lab with
      | none => rfl
      | some r =>
        obtain ⟨k, hk2, e, _⟩ := (hgr r).1 hs
        have := List.find?_eq_none.1 hk k hk2
        simp [e] at this
    rw [hn]; rfl
  | some k =>
    obtain ⟨h1, h2⟩ := key_some hk
    have hs := (hgr k.1).2 ⟨k, h1, h2, rfl⟩
    rw [hs]; rfl
theorem Sim.step {H : Hd} {K : List Ky} {s : Lk} {b : List Ky × List Rec} (hO : OfH H K) (h : Sim H K s b) {lab : List Lb} (hr : rightF lab = 0) : Sim H K (lookStep H.ix s lab) (bornStep b lab) := by
  have hl := h.look lab hr
  unfold bornStep
  rw [has_key]
  cases hk : keyOf b.1 lab with
  | some k =>
    rw [hk] at hl
    rw [if_pos (show (some k).isSome = true from rfl), lookStep_some (show lookRef H.ix s.prev lab = some k.1 from hl)]
    refine ⟨h.top, h.born, fun lab' hr' => ?_, fun q hq => ?_, h.rise, h.pts, h.ext, h.recs⟩
    · rw [look_app]
      have h2 := h.look lab' hr'
      cases hk' : keyOf b.1 lab' with
      | some k' => rw [hk'] at h2; rw [h2]; rfl
      | none =>
        rw [hk'] at h2
        rw [h2]
        have hne : ¬ lab = lab' := fun e => by rw [← e, hk] at hk'; cases hk'
        rw [if_neg hne]
        simp
    · rcases List.mem_append.1 hq with hq | hq
      · exact h.prev q hq
      · simp at hq; subst hq; exact ⟨k, hk, rfl⟩
  | none =>
    rw [hk] at hl
    have hnx : nextK b.1 = s.top + 1 := by rw [next_max, h.top]
    have hlt : ∀ k ∈ b.1, k.1 < nextK b.1 := fun k hk => by rw [next_max]; have := (max_le (K := b.1)).1 k hk; omega
    rw [if_neg (by simp), lookStep_none (show lookRef H.ix s.prev lab = none from hl), add_last hlt]
    obtain ⟨N, e1, e2, e3⟩ := h.ext
    have hm := (max_le (K := b.1)).2
    have hmK : maxK K ≤ maxK b.1 := by
      rw [e1]
      have : ∀ (N K : List Ky), maxK K ≤ maxK (K ++ N) := by
        intro N
        induction N with
        | nil => intro K; simp
        | cons x N ih =>
          intro K
          have h1 := ih (K ++ [x])
          rw [List.append_assoc, List.singleton_append, max_add] at h1
          omega
      exact this N K
    have hmx : maxK (b.1 ++ [(nextK b.1, lab, [])]) = nextK b.1 := by
      rw [max_add, next_max]
      show max (maxK b.1) (maxK b.1 + 1) = _
      omega
    refine ⟨?_, ?_, fun lab' hr' => ?_, fun q hq => ?_, ?_, fun k hk2 => ?_, ⟨N ++ [(nextK b.1, lab, [])], ?_, fun k hk2 => ?_, ?_⟩, fun r hr2 => ?_⟩
    · show s.top + 1 = _
      rw [hmx, hnx]
    · show s.born ++ [_] = _
      rw [h.born, List.map_append, hnx]; rfl
    · show lookRef H.ix (s.prev ++ [(lab, s.top + 1)]) lab' = _
      rw [look_app, key_app]
      have h2 := h.look lab' hr'
      cases hk' : keyOf b.1 lab' with
      | some k' => rw [hk'] at h2; rw [h2]; rfl
      | none =>
        rw [hk'] at h2
        rw [h2]
        by_cases e : lab = lab'
        · have hrn : ¬ (refF H.ix lab').isSome = true := fun hs => by
            have h3 := h2
            unfold lookRef at h3
            rw [if_pos hs] at h3
            rw [h3] at hs; cases hs
          rw [if_neg hrn, if_pos e, if_pos (show ((nextK b.1, lab, []) : Ky).2.1 = lab' from e), hnx]
          rfl
        · rw [if_neg (show ¬ ((nextK b.1, lab, []) : Ky).2.1 = lab' from e), if_neg e]
          simp
    · show ∃ k, keyOf (b.1 ++ [_]) q.1 = some k ∧ _
      rw [key_app]
      rcases List.mem_append.1 hq with hq | hq
      · obtain ⟨k, g1, g2⟩ := h.prev q hq
        exact ⟨k, by rw [g1]; rfl, g2⟩
      · simp at hq; subst hq
        refine ⟨(nextK b.1, lab, []), ?_, hnx⟩
        rw [hk]; simp
    · show RiseK (b.1 ++ [_])
      refine List.pairwise_append.2 ⟨h.rise, by simp, fun k hk2 x hx => ?_⟩
      simp at hx; subst hx
      exact hlt k hk2
    · rcases List.mem_append.1 hk2 with hk2 | hk2
      · exact h.pts k hk2
      · simp at hk2; subst hk2
        show (mget H.pts (nextK b.1)).getD [] = []
        have hn : mget H.pts (nextK b.1) = none := by
          cases hg : mget H.pts (nextK b.1) with
          | none => rfl
          | some x =>
            have hs : (mget H.ix.all (nextK b.1)).isSome = true := by rw [← hO.inv.pk, hg]; rfl
            obtain ⟨l', hl'⟩ := Option.isSome_iff_exists.1 hs
            have h5 := (max_le (K := K)).1 _ ((hO.mem (nextK b.1, l', (mget H.pts (nextK b.1)).getD [])).2 ⟨hl', rfl⟩)
            rw [next_max] at h5
            simp only at h5
            omega
        rw [hn]; rfl
    · show b.1 ++ [_] = K ++ (N ++ [_])
      rw [e1, List.append_assoc]
    · rcases List.mem_append.1 hk2 with hk2 | hk2
      · exact e2 k hk2
      · simp at hk2; subst hk2
        exact ⟨by rw [next_max]; show maxK K < maxK b.1 + 1; omega, rfl, hr⟩
    · show (N ++ [_]).length = (b.2 ++ [_]).length
      rw [List.length_append, List.length_append, e3]; rfl
    · show _ ∧ _ ∧ r.ref ≤ maxK (b.1 ++ [_]) ∧ _
      rw [hmx]
      rcases List.mem_append.1 hr2 with hr2 | hr2
      · obtain ⟨a1, a2, a3, a4⟩ := h.recs r hr2
        exact ⟨a1, a2, by rw [next_max]; omega, a4⟩
      · simp at hr2; subst hr2
        exact ⟨rfl, by show 1 ≤ nextK b.1; rw [next_max]; omega, Int.le_refl _, rfl, hr⟩
theorem sim_all {H : Hd} {K : List Ky} (hO : OfH H K) (ht : H.top = maxK K) : ∀ (ls : List (List Lb)) (s : Lk) (b : List Ky × List Rec), Sim H K s b → (∀ lab ∈ ls, rightF lab = 0) → Sim H K (ls.foldl (lookStep H.ix) s) (ls.foldl bornStep b)
  | [], _, _, h, _ => h
  | a :: ls, s, b, h, hr => by
    rw [List.foldl_cons, List.foldl_cons]
    exact sim_all hO ht ls _ _ (h.step hO (hr a (List.mem_cons_self ..))) (fun x hx => hr x (List.mem_cons_of_mem _ hx))
theorem sim_of {H : Hd} {K : List Ky} (hO : OfH H K) (ht : H.top = maxK K) (ls : List (List Lb)) (hr : ∀ lab ∈ ls, rightF lab = 0) : Sim H K (lookAll H.ix H.top ls) (bornAll K ls) := sim_all hO ht ls _ _ (Sim.start hO ht) hr
/-- every label that was looked for is there -/
theorem born_has : ∀ (ls : List (List Lb)) (b : List Ky × List Rec) (lab : List Lb), (lab ∈ ls ∨ hasLab b.1 lab = true) → hasLab (ls.foldl bornStep b).1 lab = true
  | [], b, lab, h => by rcases h with h | h; simp at h; exact h
  | a :: ls, b, lab, h => by
    rw [List.foldl_cons]
    refine born_has ls (bornStep b a) lab ?_
    have key : ∀ lab, lab = a ∨ hasLab b.1 lab = true → hasLab (bornStep b a).1 lab = true := by
      intro lab h
      unfold bornStep
      by_cases h2 : hasLab b.1 a = true
      · rw [if_pos h2]; rcases h with rfl | h; exact h2; exact h
      · rw [if_neg h2]
        unfold hasLab
        rw [List.any_eq_true]
        rcases h with rfl | h
        · exact ⟨(nextK b.1, lab, []), addL_mem.2 (.inr rfl), by simp⟩
        · unfold hasLab at h
          obtain ⟨k, hk, e⟩ := List.any_eq_true.1 h
          refine ⟨k, addL_mem.2 (.inl ⟨hk, ?_⟩), e⟩
          have := (max_le (K := b.1)).1 k hk
          show k.1 ≠ nextK b.1
          rw [next_max]; omega
    rcases h with h | h
    · rcases List.mem_cons.1 h with h | h
      · exact .inr (key lab (.inl h))
      · exact .inl h
    · exact .inr (key lab (.inr h))
end Go.Proofs.YtbjglcdoekbloaaGreatDoor

/- plain: the document's Plan is the head's. -/
namespace Go.Proofs.YtbjglcdoekbloaaGreatDoor
open Go.Proofs.YtbjglcdoekbloaaGreatDoor.MapRaw

def cntL (l : List Po) (lab : List Lb) : Nat := (l.filter fun q => decide (q.lab = lab)).length
def fullK (K : List Ky) (l : List Po) (p : Po) : Bool := match keyOf K p.lab with | some k => decide (65536 < k.2.2.length + cntL l p.lab) | none => false
def freshStep (K : List Ky) (s : List (List Lb) × Nat) (p : Po) : List (List Lb) × Nat := (s.1 ++ [p.lab], if hasLab K p.lab = true ∨ p.lab ∈ s.1 then s.2 else s.2 + 1)
def freshL (K : List Ky) (l : List Po) : Nat := (l.foldl (freshStep K) ([], 0)).2
def wrongK (K : List Ky) (seq : Int) (l : List Po) : Int :=
  if 16 < l.length then 3 else if seq = 0 then 1 else if labsErr l ≠ 0 then labsErr l
  else if l.any (fullK K l) = true ∨ 4096 < K.length + freshL K l ∨ 4294967295 < maxK K + freshL K l then 5 else 0
def manyStep (seq : Int) (s : List Ky × List En) (p : Po) : List Ky × List En :=
  match keyOf s.1 p.lab with
  | none => s
  | some k => if (putF k.2.2 (ptOf seq p)).1 = k.2.2 then s else (setL s.1 k.1 (fun l => (putF l (ptOf seq p)).1), s.2 ++ [⟨k.1, ptOf seq p⟩])
def markK (K : List Ky) (p : Po) : Mk := ⟨p.at_, match keyOf K p.lab with | some k => (match atP k.2.2 p.T with | some q => decide (q.V = p.V) | none => false) | none => false⟩
def planK (K : List Ky) (seq : Int) (l : List Po) : List Rec × List Mk × Int :=
  if wrongK K seq l ≠ 0 then ([], [], wrongK K seq l)
  else (recsOf (bornAll K (l.map Po.lab)).2 (l.foldl (manyStep seq) ((bornAll K (l.map Po.lab)).1, [])).2, l.map (markK (l.foldl (manyStep seq) ((bornAll K (l.map Po.lab)).1, [])).1), 0)

theorem has_born (b : List Ky × List Rec) (a lab : List Lb) : hasLab (bornStep b a).1 lab = (hasLab b.1 lab || decide (lab = a)) := by
  unfold bornStep
  by_cases h2 : hasLab b.1 a = true
  · rw [if_pos h2]
    by_cases e : lab = a
    · subst e; simp [h2]
    · simp [e]
  · rw [if_neg h2]
    have hlt : ∀ k ∈ b.1, k.1 < nextK b.1 := fun k hk => by rw [next_max]; have := (max_le (K := b.1)).1 k hk; omega
    show hasLab (addL b.1 _) lab = _
    rw [add_last hlt]
    unfold hasLab
    rw [List.any_append]
    congr 1
    simp only [List.any_cons, List.any_nil, Bool.or_false]
    exact MapRaw.dec_comm _ _
theorem fresh_born (K : List Ky) : ∀ (l : List Po) (s : List (List Lb) × Nat) (b : List Ky × List Rec), (∀ lab, hasLab b.1 lab = (hasLab K lab || decide (lab ∈ s.1))) → b.2.length = s.2 → ((l.map Po.lab).foldl bornStep b).2.length = (l.foldl (freshStep K) s).2
  | [], _, _, _, h => h
  | p :: l, s, b, h1, h2 => by
    rw [List.map_cons, List.foldl_cons, List.foldl_cons]
    refine fresh_born K l _ _ (fun lab => ?_) ?_
    · rw [has_born, h1]
      unfold freshStep
      simp only [List.mem_append, List.mem_singleton]
      rw [Bool.eq_iff_iff]
      simp only [Bool.or_eq_true, decide_eq_true_eq]
      constructor
      · rintro ((h | h) | h)
        · exact .inl h
        · exact .inr (.inl h)
        · exact .inr (.inr h)
      · rintro (h | h | h)
        · exact .inl (.inl h)
        · exact .inl (.inr h)
        · exact .inr h
    · unfold bornStep freshStep
      have h3 := h1 p.lab
      by_cases hc : hasLab b.1 p.lab = true
      · rw [if_pos hc]
        rw [hc] at h3
        rw [if_pos (by simpa using h3.symm)]
        exact h2
      · rw [if_neg hc]
        have hc' : hasLab b.1 p.lab = false := by simpa using hc
        rw [hc'] at h3
        rw [if_neg (by
          have h4 := h3.symm
          simp only [Bool.or_eq_false_iff, decide_eq_false_iff_not] at h4
          rintro (h | h)
          · rw [h4.1] at h; cases h
          · exact h4.2 h)]
        rw [List.length_append, h2]; rfl
theorem fresh_len (K : List Ky) (l : List Po) : (bornAll K (l.map Po.lab)).2.length = freshL K l := fresh_born K l _ _ (fun lab => by simp) rfl

/-! ### how many -/
theorem cnt_same {H : Hd} {K : List Ky} {s : Lk} {b : List Ky × List Rec} (h : Sim H K s b) {l : List Po} (hp : s.prev.map (·.1) = l.map Po.lab) {lab : List Lb} {k : Ky} (hk : keyOf b.1 lab = some k) : cntF s.of k.1 = cntL l lab := by
  have e1 : cntL l lab = ((l.map Po.lab).filter fun x => decide (x = lab)).length := by
    unfold cntL; rw [List.filter_map, List.length_map]; rfl
  have e2 : ((l.map Po.lab).filter fun x => decide (x = lab)).length = (s.prev.filter fun q => decide (q.1 = lab)).length := by
    rw [← hp, List.filter_map, List.length_map]; rfl
  have e3 : cntF s.of k.1 = (s.prev.filter fun q => decide (q.2 = k.1)).length := by
    unfold cntF Lk.of; rw [List.filter_map, List.length_map]; rfl
  rw [e1, e2, e3]
  congr 1
  refine List.filter_congr (fun q hq => ?_)
  obtain ⟨k', g1, g2⟩ := h.prev q hq
  obtain ⟨m1, m2⟩ := key_some g1
  obtain ⟨n1, n2⟩ := key_some hk
  rw [decide_eq_decide]
  constructor
  · intro e
    have hkk : k' = k := by
      obtain ⟨i, hi, e1⟩ := List.getElem_of_mem m1
      obtain ⟨j, hj, e2⟩ := List.getElem_of_mem n1
      have hpw := List.pairwise_iff_getElem.1 h.rise
      have hne : k'.1 = k.1 := g2.trans e
      rcases Nat.lt_trichotomy i j with g | g | g
      · have := hpw i j hi hj g; rw [e1, e2] at this; omega
      · subst g; rw [← e1, ← e2]
      · have := hpw j i hj hi g; rw [e1, e2] at this; omega
    rw [← m2, hkk, n2]
  · intro e
    rw [e, hk] at g1
    rw [← g2, ← Option.some.inj g1]
theorem full_same {H : Hd} {K : List Ky} (hO : OfH H K) {s : Lk} {b : List Ky × List Rec} (h : Sim H K s b) {l : List Po} (hp : s.prev.map (·.1) = l.map Po.lab) (h16 : l.length ≤ 16) : s.of.any (tooB H (plOf s)) = l.any (fullK K l) := by
  obtain ⟨N, hN, hN2, _⟩ := h.ext
  have hkeyK : ∀ lab k, keyOf K lab = some k → keyOf b.1 lab = some k := fun lab k hk => by
    rw [hN]; unfold keyOf at hk ⊢; rw [List.find?_append, hk]; rfl
  have hc16 : ∀ lab, cntL l lab ≤ 16 := fun lab => Nat.le_trans (List.length_filter_le _ _) h16
  rw [Bool.eq_iff_iff, List.any_eq_true, List.any_eq_true]
  constructor
  · rintro ⟨n, hn, e⟩
    obtain ⟨q, hq, rfl⟩ := List.mem_map.1 hn
    obtain ⟨k, g1, g2⟩ := h.prev q hq
    have hlm : q.1 ∈ l.map Po.lab := by rw [← hp]; exact List.mem_map_of_mem hq
    obtain ⟨p, hpm, he⟩ := List.mem_map.1 hlm
    refine ⟨p, hpm, ?_⟩
    unfold tooB at e
    have hcn := cnt_same h hp g1
    rw [g2] at hcn
    have hpk := h.pts k (key_some g1).1
    rw [g2] at hpk
    have hpo : (plOf s).of = s.of := rfl
    rw [hpo, hcn, hpk] at e
    unfold fullK
    rw [he]
    cases hK : keyOf K q.1 with
    | some k2 =>
      have := hkeyK _ _ hK
      rw [g1] at this
      cases this
      simp only [decide_eq_true_eq] at e ⊢
      omega
    | none =>
      have hkN : k ∈ N := by
        have hm := (key_some g1).1
        rw [hN] at hm
        rcases List.mem_append.1 hm with hm | hm
        · have := List.find?_eq_none.1 hK k hm
          simp [(key_some g1).2] at this
        · exact hm
      rw [(hN2 k hkN).2.1] at e
      have := hc16 q.1
      simp at e
      omega
  · rintro ⟨p, hpm, e⟩
    unfold fullK at e
    cases hK : keyOf K p.lab with
    | none => rw [hK] at e; cases e
    | some k =>
      rw [hK] at e
      have g1 := hkeyK _ _ hK
      have hlm : p.lab ∈ s.prev.map (·.1) := by rw [hp]; exact List.mem_map_of_mem hpm
      obtain ⟨q, hq, he⟩ := List.mem_map.1 hlm
      obtain ⟨k', g3, g4⟩ := h.prev q hq
      rw [he, g1] at g3
      cases g3
      refine ⟨q.2, List.mem_map_of_mem hq, ?_⟩
      unfold tooB
      have hcn := cnt_same h hp g1
      have hpk := h.pts k (key_some g1).1
      have hpo : (plOf s).of = s.of := rfl
      rw [hpo, ← g4, hcn, hpk]
      simp only [decide_eq_true_eq] at e ⊢
      omega

/-! ### the points -/
def viewK (H : Hd) (will : List (Int × List Pt)) (B : List Ky) : List Ky := B.map fun k => (k.1, k.2.1, nowF H will k.1)
theorem view_key (H : Hd) (will : List (Int × List Pt)) (B : List Ky) (lab : List Lb) : keyOf (viewK H will B) lab = (keyOf B lab).map fun k => (k.1, k.2.1, nowF H will k.1) := by
  unfold viewK keyOf
  rw [List.find?_map]
  rfl
theorem wl_sim (H : Hd) (seq : Int) (hs : seq ≠ 0) (B : List Ky) (hb : ∀ k ∈ B, 0 ≤ k.1 ∧ k.1 < 4294967296) : ∀ (ps : List (Po × Int)) (s : Wl), (∀ p ∈ ps, ∃ k, keyOf B p.1.lab = some k ∧ k.1 = p.2) → (∀ r, rightP (nowF H s.will r) = true) → (∀ r, (nowF H s.will r).length + cntF (ps.map (·.2)) r ≤ 65536) →
    ∃ s', wlAll H seq ps s = (0, s') ∧ (ps.map (·.1)).foldl (manyStep seq) (viewK H s.will B, s.ents) = (viewK H s'.will B, s'.ents) ∧ (∀ p ∈ ps, (mget s'.will p.2).isSome = true) ∧ (∀ r, (mget s.will r).isSome = true → (mget s'.will r).isSome = true)
  | [], s, _, _, _ => ⟨s, rfl, rfl, fun p hp => by simp at hp, fun _ h => h⟩
  | p :: ps, s, hk, hr, hc => by
    obtain ⟨k, g1, g2⟩ := hk p (List.mem_cons_self ..)
    have hc1 := hc p.2
    rw [List.map_cons, cntF_cons, if_pos rfl] at hc1
    obtain ⟨e0, hok⟩ := put_ok (p := ptOf seq p.1) (hr p.2) hs (by omega)
    have hw : IntKind.u32.wrap p.2 = p.2 := by
      have := hb k (key_some g1).1
      rw [g2] at this
      exact u32_wrap this.1 this.2
    have hwill : (wlNext H seq s p).will = mput s.will p.2 (putF (nowF H s.will p.2) (ptOf seq p.1)).1 := rfl
    have hnow : ∀ r, nowF H (wlNext H seq s p).will r = if p.2 = r then (putF (nowF H s.will p.2) (ptOf seq p.1)).1 else nowF H s.will r := fun r => by rw [hwill]; exact nowF_put H s.will p.2 r _
    have hstep : manyStep seq (viewK H s.will B, s.ents) p.1 = (viewK H (wlNext H seq s p).will B, (wlNext H seq s p).ents) := by
      unfold manyStep
      rw [view_key, g1]
      simp only [Option.map_some]
      rw [g2]
      unfold wlNext
      rw [hw]
      by_cases hsame : (putF (nowF H s.will p.2) (ptOf seq p.1)).1 = nowF H s.will p.2
      · rw [if_pos hsame, if_pos hsame]
        congr 1
        unfold viewK
        refine List.map_congr_left (fun y hy => ?_)
        rw [nowF_put]
        by_cases e : p.2 = y.1
        · rw [if_pos e, hsame, e]
        · rw [if_neg e]
      · rw [if_neg hsame, if_neg hsame]
        congr 1
        unfold viewK setL
        rw [List.map_map]
        refine List.map_congr_left (fun y hy => ?_)
        simp only [Function.comp_apply]
        rw [nowF_put]
        by_cases e : y.1 = p.2
        · rw [if_pos e, if_pos e.symm, e]
        · rw [if_neg e, if_neg (fun e2 => e e2.symm)]
    obtain ⟨s', h1, h2, h3, h4⟩ := wl_sim H seq hs B hb ps (wlNext H seq s p) (fun q hq => hk q (List.mem_cons_of_mem _ hq)) (fun r => by
        rw [hnow]
        by_cases e : p.2 = r
        · rw [if_pos e]; exact hok.right
        · rw [if_neg e]; exact hr r) (fun r => by
        rw [hnow]
        have hcr := hc r
        rw [List.map_cons, cntF_cons] at hcr
        by_cases e : p.2 = r
        · rw [if_pos e]
          rw [if_pos e] at hcr
          have := hok.len.2
          rw [← e] at hcr ⊢
          omega
        · rw [if_neg e]
          rw [if_neg e] at hcr
          omega)
    refine ⟨s', ?_, ?_, fun q hq => ?_, fun r hs' => h4 r ?_⟩
    · rw [wlAll, if_neg (by simp [e0])]; exact h1
    · rw [List.map_cons, List.foldl_cons, hstep]; exact h2
    · rcases List.mem_cons.1 hq with rfl | hq
      · refine h4 _ ?_
        rw [hwill, mget_put, if_pos rfl]; rfl
      · exact h3 q hq
    · rw [hwill, mget_put]
      split
      · rfl
      · exact hs'
theorem plan_same {H : Hd} {K : List Ky} (hO : OfH H K) (ht : H.top = maxK K) (seq : Int) (l : List Po) : planF H seq l = planK K seq l := by
  unfold planF planK wrongK
  by_cases h16 : 16 < l.length
  · rw [if_pos h16, if_pos h16, if_pos (by decide)]
  · rw [if_neg h16, if_neg h16]
    by_cases h0 : seq = 0
    · rw [if_pos h0, if_pos h0, if_pos (by decide)]
    · rw [if_neg h0, if_neg h0]
      by_cases hl : labsErr l ≠ 0
      · rw [if_pos hl, if_pos hl, if_pos hl]
      · rw [if_neg hl, if_neg hl]
        have hlab : ∀ lab ∈ l.map Po.lab, rightF lab = 0 := fun lab hm => by
          obtain ⟨p, hp, rfl⟩ := List.mem_map.1 hm
          exact labs_ok l (by simpa using hl) p hp
        have hS := sim_of hO ht (l.map Po.lab) hlab
        have hprev := (look_prev H.ix H.top (l.map Po.lab)).1
        obtain ⟨bp, hbp⟩ := look_all H.ix H.top (l.map Po.lab)
        have hfl := fresh_len K l
        generalize lookAll H.ix H.top (l.map Po.lab) = s at *
        generalize bornAll K (l.map Po.lab) = b at *
        have hbl : s.born.length = freshL K l := by rw [hS.born, List.length_map, hfl]
        have htop : s.top = maxK K + freshL K l := by
          rw [hbp.tp, ht, ← hbl, hbp.born, List.length_map]
        have hfull : fullF H (plOf s) = true ↔ (l.any (fullK K l) = true ∨ 4096 < K.length + freshL K l ∨ 4294967295 < maxK K + freshL K l) := by
          unfold fullF roomB
          have e1 : (plOf s).of = s.of := rfl
          have e2 : (plOf s).born.length = s.born.length := by show (s.born.map _).length = _; rw [List.length_map]
          have e3 : (plOf s).top = s.top := rfl
          rw [e1, e2, e3, full_same hO hS hprev (by omega), hbl, htop, hO.len]
          simp only [Bool.or_eq_true, decide_eq_true_eq]
          by_cases hx : l.any (fullK K l) = true
          · simp [hx]
          · have hx' : l.any (fullK K l) = false := by simpa using hx
            rw [hx']
            simp only [Bool.false_eq_true, or_false, false_or]
            omega
        by_cases hf : fullF H (plOf s) = true
        · rw [if_pos hf, if_pos (hfull.1 hf), if_pos (by decide)]
        · rw [if_neg hf, if_neg (fun g => hf (hfull.2 g)), if_neg (show ¬ ((0 : Int) ≠ 0) from by decide)]
          have hnf := fun g => hf (hfull.2 g)
          have hb4 : maxK K + freshL K l ≤ 4294967295 := by
            exact Int.not_lt.1 (fun g => hnf (.inr (.inr g)))
          have hbb : ∀ k ∈ b.1, 0 ≤ k.1 ∧ k.1 < 4294967296 := fun k hk => by
            have h1 := (max_le (K := b.1)).1 k hk
            rw [← hS.top, htop] at h1
            obtain ⟨N, e1, e2, _⟩ := hS.ext
            rw [e1] at hk
            refine ⟨?_, by omega⟩
            rcases List.mem_append.1 hk with hk | hk
            · obtain ⟨a, _⟩ := (hO.mem k).1 hk
              have := hO.num k.1 (by rw [a]; rfl)
              omega
            · have := (e2 k hk).1
              have := (max_le (K := K)).2
              omega
          have hzl : (l.zip s.of).map (·.1) = l := by
            rw [List.map_fst_zip]
            have := congrArg List.length hprev
            simp only [List.length_map] at this
            unfold Lk.of; rw [List.length_map]; omega
          have hzo : (l.zip s.of).map (·.2) = s.of := by
            rw [List.map_snd_zip]
            have := congrArg List.length hprev
            simp only [List.length_map] at this
            unfold Lk.of; rw [List.length_map]; omega
          have hpk : ∀ p ∈ l.zip s.of, ∃ k, keyOf b.1 p.1.lab = some k ∧ k.1 = p.2 := fun p hp => by
            obtain ⟨i, hi, e⟩ := List.getElem_of_mem hp
            rw [List.getElem_zip] at e
            have hi1 : i < l.length := by rw [List.length_zip] at hi; omega
            have hi2 : i < s.prev.length := by rw [List.length_zip] at hi; unfold Lk.of at hi; rw [List.length_map] at hi; omega
            have hq := hS.prev s.prev[i] (List.getElem_mem hi2)
            have h1 : s.prev[i].1 = l[i].lab := by
              have := congrArg (fun x => x[i]?) hprev
              simpa [List.getElem?_eq_getElem hi1, List.getElem?_eq_getElem hi2] using this
            have h2 : s.of[i]'(by unfold Lk.of; rw [List.length_map]; exact hi2) = s.prev[i].2 := by unfold Lk.of; rw [List.getElem_map]
            rw [← e]
            simp only
            rw [h2, ← h1]
            exact hq
          have hview : viewK H [] b.1 = b.1 := by
            unfold viewK
            rw [List.map_congr_left (g := id) (fun k hk => by
              have := hS.pts k hk
              show (k.1, k.2.1, nowF H [] k.1) = k
              unfold nowF
              simp only [mget, Option.getD_none]
              rw [this]), List.map_id]
          obtain ⟨s', h1, h2, h3, h4⟩ := wl_sim H seq h0 b.1 hbb (l.zip s.of) ⟨[], []⟩ hpk (fun r => by
              show rightP (nowF H [] r) = true
              unfold nowF; simp only [mget, Option.getD_none]; exact hO.inv.right r) (fun r => by
              show (nowF H [] r).length + _ ≤ _
              rw [hzo]
              unfold nowF; simp only [mget, Option.getD_none]
              have h65 := (rightP_rising (hO.inv.right r)).2
              by_cases h6 : 0 < cntF s.of r
              · have hm := cntF_pos h6
                have hnb := fun g => hnf (.inl g)
                rw [← full_same hO hS hprev (by omega)] at hnb
                have := List.any_eq_false.1 (by simpa using hnb : s.of.any (tooB H (plOf s)) = false) r hm
                unfold tooB at this
                have e1 : (plOf s).of = s.of := rfl
                rw [e1] at this
                simp at this
                omega
              · omega)
          rw [h1]
          simp only [hzl] at h2
          rw [hview] at h2
          rw [h2]
          simp only [ne_eq, not_true_eq_false, if_false]
          have hborn : s.born = b.2 := by
            rw [hS.born]
            rw [List.map_congr_left (g := id) (fun r hr => by
              obtain ⟨a1, a2, a3, a4, _⟩ := hS.recs r hr
              rw [← hS.top, htop] at a3
              have hw : IntKind.u32.wrap r.ref = r.ref := u32_wrap (by omega) (by omega)
              show wrapR r = r
              unfold wrapR; rw [hw]), List.map_id]
          rw [hborn]
          congr 1
          congr 1
          have hmk : ∀ p ∈ l.zip s.of, markOf s'.will p = markK (viewK H s'.will b.1) p.1 := fun p hp => by
            obtain ⟨k, g1, g2⟩ := hpk p hp
            unfold markOf markK
            rw [view_key, g1]
            simp only [Option.map_some]
            obtain ⟨m, hm⟩ := Option.isSome_iff_exists.1 (h3 p hp)
            have hn : nowF H s'.will k.1 = m := by unfold nowF; rw [g2, hm]; rfl
            rw [hn, hm]; rfl
          rw [List.map_congr_left hmk]
          have e9 := congrArg (List.map (markK (viewK H s'.will b.1))) hzl
          rw [List.map_map] at e9
          exact e9
theorem of_top (L : List Ky) : (ofF L).top = maxK L := by
  have h : ∀ (L : List Ky) (H : Hd), (L.foldl ofStep H).top = L.foldl (fun m k => max m k.1) H.top := by
    intro L
    induction L with
    | nil => intro H; rfl
    | cons k L ih => intro H; rw [List.foldl_cons, List.foldl_cons, ih]; rfl
  exact h L H0

/-! ### for the walks -/
theorem max_take (l : List Sr) (k : Nat) (hk : k < l.length) : maxK ((l.take (k + 1)).map Sr.key) = max (maxK ((l.take k).map Sr.key)) l[k].ref := by
  rw [List.take_succ_eq_append_getElem hk, List.map_append]
  exact max_add _ _
theorem cntL_take (l : List Po) (lab : List Lb) (k : Nat) (hk : k < l.length) : cntL (l.take (k + 1)) lab = cntL (l.take k) lab + (if l[k].lab = lab then 1 else 0) := by
  rw [List.take_succ_eq_append_getElem hk]
  unfold cntL
  rw [List.filter_append, List.length_append]
  congr 1
  by_cases e : l[k].lab = lab
  · simp [e]
  · simp [e]
theorem cntL_le (l : List Po) (lab : List Lb) (k : Nat) : cntL (l.take k) lab ≤ k := by
  unfold cntL
  refine Nat.le_trans (List.length_filter_le _ _) ?_
  rw [List.length_take]; omega
/-- are labels there ahead of a place? -/
def aheadL (l : List Po) (i k : Nat) (lab : List Lb) : Bool := (l.take (min k i)).any fun q => decide (q.lab = lab)
theorem ahead_take (l : List Po) (i k : Nat) (lab : List Lb) (hk : k < l.length) : aheadL l i (k + 1) lab = (aheadL l i k lab || (decide (l[k].lab = lab) && decide (k < i))) := by
  unfold aheadL
  by_cases h : k < i
  · have e1 : min (k + 1) i = k + 1 := by omega
    have e2 : min k i = k := by omega
    rw [e1, e2, List.take_succ_eq_append_getElem hk, List.any_append]
    simp [h]
  · have e1 : min (k + 1) i = i := by omega
    have e2 : min k i = i := by omega
    rw [e1, e2]
    simp [h]
theorem ahead_done (l : List Po) (i : Nat) (lab : List Lb) (hi : i ≤ l.length) : aheadL l i l.length lab = (l.take i).any fun q => decide (q.lab = lab) := by
  unfold aheadL
  rw [Nat.min_eq_right hi]
theorem fresh_fst (K : List Ky) : ∀ (l : List Po) (s : List (List Lb) × Nat), (l.foldl (freshStep K) s).1 = s.1 ++ l.map Po.lab
  | [], s => by simp
  | p :: l, s => by rw [List.foldl_cons, fresh_fst K l]; simp [freshStep]
theorem fresh_take (K : List Ky) (l : List Po) (k : Nat) (hk : k < l.length) : freshL K (l.take (k + 1)) = if hasLab K l[k].lab = true ∨ ((l.take k).any fun q => decide (q.lab = l[k].lab)) = true then freshL K (l.take k) else freshL K (l.take k) + 1 := by
  have hm : l[k].lab ∈ (l.take k).map Po.lab ↔ ((l.take k).any fun q => decide (q.lab = l[k].lab)) = true := by
    rw [List.any_eq_true, List.mem_map]
    constructor
    · rintro ⟨q, hq, e⟩; exact ⟨q, hq, by simpa using e⟩
    · rintro ⟨q, hq, e⟩; exact ⟨q, hq, by simpa using e⟩
  unfold freshL
  rw [List.take_succ_eq_append_getElem hk, List.foldl_append, List.foldl_cons, List.foldl_nil]
  unfold freshStep
  simp only
  have h1 := fresh_fst K (l.take k) ([], 0)
  unfold freshStep at h1
  rw [h1]
  simp only [List.nil_append]
  by_cases h : hasLab K l[k].lab = true
  · rw [if_pos (.inl h), if_pos (.inl h)]
  · by_cases h3 : ((l.take k).any fun q => decide (q.lab = l[k].lab)) = true
    · rw [if_pos (.inr (hm.2 h3)), if_pos (.inr h3)]
    · rw [if_neg (fun g => g.elim h (fun g => h3 (hm.1 g))), if_neg (fun g => g.elim h h3)]
theorem fresh_le (K : List Ky) (l : List Po) (k : Nat) : freshL K (l.take k) ≤ k := by
  have h1 : ∀ (s : List (List Lb) × Nat) (p : Po), (freshStep K s p).2 ≤ s.2 + 1 := fun s p => by
    unfold freshStep
    simp only
    split <;> omega
  have h : ∀ (l : List Po) (s : List (List Lb) × Nat), (l.foldl (freshStep K) s).2 ≤ s.2 + l.length := by
    intro l
    induction l with
    | nil => intro s; simp
    | cons p l ih =>
      intro s
      rw [List.foldl_cons]
      have h2 := ih (freshStep K s p)
      have h3 := h1 s p
      simp only [List.length_cons]
      omega
  have := h (l.take k) ([], 0)
  unfold freshL
  rw [List.length_take] at this
  simp only [Nat.zero_add] at this
  omega
/-- where labels stand, and what stands there -/
theorem key_find {l : List Sr} {lab : List Lb} : keyOf (l.map Sr.key) lab = (l.find? (labB lab)).map Sr.key := by
  unfold keyOf
  rw [List.find?_map]; rfl
theorem find_idx {l : List Sr} {lab : List Lb} : (l.findIdx? (labB lab) = none ∧ keyOf (l.map Sr.key) lab = none) ∨ ∃ i, ∃ hi : i < l.length, l.findIdx? (labB lab) = some i ∧ keyOf (l.map Sr.key) lab = some l[i].key := by
  cases h : l.findIdx? (labB lab) with
  | none =>
    left
    refine ⟨rfl, ?_⟩
    unfold keyOf
    rw [List.find?_eq_none]
    intro k hk
    obtain ⟨x, hx, rfl⟩ := List.mem_map.1 hk
    have := List.findIdx?_eq_none_iff.1 h x hx
    have h5 : ¬ x.lab = lab := fun e => by simp [labB, e] at this
    show ¬ decide (x.lab = lab) = true
    simp [h5]
  | some i =>
    right
    obtain ⟨hi, h2, h3⟩ := List.findIdx?_eq_some_iff_getElem.1 h
    refine ⟨i, hi, rfl, ?_⟩
    rw [key_find, Option.map_eq_some_iff]
    refine ⟨l[i], ?_, rfl⟩
    rw [List.find?_eq_some_iff_getElem]
    exact ⟨h2, i, hi, rfl, fun j hj => by have := h3 j hj; simpa using this⟩
end Go.Proofs.YtbjglcdoekbloaaGreatDoor
