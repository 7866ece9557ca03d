import Derived.Test.YtbjglcdoekbloaaGreatDoorGLaB
set_option linter.unusedSimpArgs false
set_option linter.unusedVariables false
set_option linter.unusedSectionVars false
/- plain: what a head has behind writes: the least point of each time, of each series that was written. -/
namespace Go.Proofs.YtbjglcdoekbloaaGreatDoor
open Go.Proofs.YtbjglcdoekbloaaGreatDoor.MapRaw

theorem at_iff : ∀ {l : List Pt} (_ : Rising l) (t : Int) (q : Pt), atP l t = some q ↔ q ∈ l ∧ q.T = t
  | [], _, t, q => by simp [atP]
  | p :: r, h, t, q => by
    obtain ⟨h1, h2⟩ := rising_cons.1 h
    rw [atP_cons]
    by_cases e : p.T = t
    · rw [if_pos e]
      constructor
      · intro h; cases h; exact ⟨List.mem_cons_self .., e⟩
      · rintro ⟨hm, ht⟩
        rcases List.mem_cons.1 hm with rfl | hm
        · rfl
        · have := h1 q hm; omega
    · rw [if_neg e, at_iff h2]
      constructor
      · rintro ⟨hm, ht⟩; exact ⟨List.mem_cons_of_mem _ hm, ht⟩
      · rintro ⟨hm, ht⟩
        rcases List.mem_cons.1 hm with rfl | hm
        · exact (e ht).elim
        · exact ⟨hm, ht⟩
/-- rising lists of the same points are the same -/
theorem rising_ext : ∀ {l r : List Pt}, Rising l → Rising r → (∀ q, q ∈ l ↔ q ∈ r) → l = r
  | [], [], _, _, _ => rfl
  | [], b :: r, _, _, h => by have := (h b).2 (List.mem_cons_self ..); simp at this
  | a :: l, [], _, _, h => by have := (h a).1 (List.mem_cons_self ..); simp at this
  | a :: l, b :: r, hl, hr, h => by
    obtain ⟨l1, l2⟩ := rising_cons.1 hl
    obtain ⟨r1, r2⟩ := rising_cons.1 hr
    have e : a = b := by
      have ha := (h a).1 (List.mem_cons_self ..)
      have hb := (h b).2 (List.mem_cons_self ..)
      rcases List.mem_cons.1 ha with ha | ha
      · exact ha
      · rcases List.mem_cons.1 hb with hb | hb
        · exact hb.symm
        · have := l1 b hb; have := r1 a ha; omega
    subst e
    rw [rising_ext l2 r2 (fun q => ?_)]
    have hq := h q
    constructor
    · intro hm
      rcases List.mem_cons.1 (hq.1 (List.mem_cons_of_mem _ hm)) with rfl | hm2
      · have := l1 q hm; omega
      · exact hm2
    · intro hm
      rcases List.mem_cons.1 (hq.2 (List.mem_cons_of_mem _ hm)) with rfl | hm2
      · have := r1 q hm; omega
      · exact hm2

/-! ### the maps of a head -/
structure Inv2 (H : Hd) : Prop where
  lab : ∀ r l, mget H.ix.all r = some l → rightF l = 0 ∧ mget H.ix.refs (printF l) = some r
  ref : ∀ s r, mget H.ix.refs s = some r → ∃ l, mget H.ix.all r = some l ∧ printF l = s
  pk : ∀ r, (mget H.pts r).isSome = (mget H.ix.all r).isSome
  nda : (H.ix.all.map (·.1)).Nodup
  ndp : (H.pts.map (·.1)).Nodup
  right : ∀ r, rightP ((mget H.pts r).getD []) = true
theorem Inv2.start : Inv2 H0 := ⟨fun r l h => by simp [H0, mget] at h, fun s r h => by simp [H0, mget] at h, fun r => rfl, by simp [H0], by simp [H0], fun r => by simp [H0, mget]; decide⟩
theorem get_iff {H : Hd} (h : Inv2 H) (l : List Lb) (lp : List Pt) : getF H l = some lp ↔ ∃ r, mget H.ix.all r = some l ∧ (mget H.pts r).getD [] = lp := by
  unfold getF
  rw [Option.map_eq_some_iff]
  constructor
  · rintro ⟨r, h1, h2⟩
    obtain ⟨g1, g2⟩ := refF_some h1
    obtain ⟨l', h3, h4⟩ := h.ref _ _ g2
    have : l' = l := print_inj (h.lab _ _ h3).1 g1 h4
    subst this
    exact ⟨r, h3, h2⟩
  · rintro ⟨r, h1, h2⟩
    obtain ⟨g1, g2⟩ := h.lab _ _ h1
    exact ⟨r, refF_of g1 g2, h2⟩
theorem Inv2.inj {H : Hd} (h : Inv2 H) {r r' : Int} {l : List Lb} (h1 : mget H.ix.all r = some l) (h2 : mget H.ix.all r' = some l) : r = r' := by
  have a := (h.lab _ _ h1).2
  rw [(h.lab _ _ h2).2] at a
  exact (Option.some.inj a).symm
theorem add_inv2 {H : Hd} {n : Int} {lab : List Lb} (h : Inv2 H) (hr : rightF lab = 0) (ha : mget H.ix.all n = none) (hp : mget H.ix.refs (printF lab) = none) :
    Inv2 (addH H n lab) ∧ (∀ r, mget (addH H n lab).ix.all r = if n = r then some lab else mget H.ix.all r) ∧ (∀ s, mget (addH H n lab).ix.refs s = if printF lab = s then some n else mget H.ix.refs s) ∧ (∀ r, mget (addH H n lab).pts r = if n = r then some [] else mget H.pts r) := by
  have hall' : ∀ r, mget (addH H n lab).ix.all r = if n = r then some lab else mget H.ix.all r := fun r => mget_put _ _ _ _
  have href' : ∀ s, mget (addH H n lab).ix.refs s = if printF lab = s then some n else mget H.ix.refs s := fun r => mget_put _ _ _ _
  have hpts' : ∀ r, mget (addH H n lab).pts r = if n = r then some [] else mget H.pts r := fun r => mget_put _ _ _ _
  refine ⟨⟨fun r l h1 => ?_, fun s r h1 => ?_, fun r => ?_, mput_nodup h.nda _ _, mput_nodup h.ndp _ _, fun r => ?_⟩, hall', href', hpts'⟩
  · rw [hall'] at h1
    by_cases e : n = r
    · rw [if_pos e] at h1; cases h1
      exact ⟨hr, by rw [href', if_pos rfl, e]⟩
    · rw [if_neg e] at h1
      obtain ⟨g1, g2⟩ := h.lab _ _ h1
      refine ⟨g1, ?_⟩
      rw [href', if_neg (fun e2 => by rw [e2, g2] at hp; cases hp)]
      exact g2
  · rw [href'] at h1
    by_cases e : printF lab = s
    · rw [if_pos e] at h1; cases h1
      exact ⟨lab, by rw [hall', if_pos rfl], e⟩
    · rw [if_neg e] at h1
      obtain ⟨l, g1, g2⟩ := h.ref _ _ h1
      exact ⟨l, by rw [hall', if_neg (fun e2 => by rw [e2, g1] at ha; cases ha)]; exact g1, g2⟩
  · rw [hall', hpts']
    by_cases e : n = r
    · rw [if_pos e, if_pos e]; rfl
    · rw [if_neg e, if_neg e]; exact h.pk r
  · rw [hpts']
    by_cases e : n = r
    · rw [if_pos e]; decide
    · rw [if_neg e]; exact h.right r
theorem add_all : ∀ (bp : List (Int × List Lb)) (H : Hd), Inv2 H → (∀ p ∈ bp, rightF p.2 = 0 ∧ mget H.ix.all p.1 = none ∧ mget H.ix.refs (printF p.2) = none) → bp.Pairwise (fun p q => p.1 ≠ q.1 ∧ p.2 ≠ q.2) →
    Inv2 (addAll H bp) ∧ (∀ r l, mget (addAll H bp).ix.all r = some l ↔ mget H.ix.all r = some l ∨ (r, l) ∈ bp) ∧ (∀ r, (mget (addAll H bp).pts r).getD [] = (mget H.pts r).getD [])
  | [], H, h, _, _ => ⟨h, fun r l => by simp [addAll], fun r => rfl⟩
  | (n, lab) :: bp, H, h, hf, hpw => by
    obtain ⟨hr, ha, hp⟩ := hf (n, lab) (List.mem_cons_self ..)
    obtain ⟨i2, hall, href, hpts⟩ := add_inv2 h hr ha hp
    obtain ⟨hpw1, hpw2⟩ := List.pairwise_cons.1 hpw
    obtain ⟨g1, g2, g3⟩ := add_all bp (addH H n lab) i2 (fun p hpm => by
      obtain ⟨a1, a2, a3⟩ := hf p (List.mem_cons_of_mem _ hpm)
      obtain ⟨n1, n2⟩ := hpw1 p hpm
      exact ⟨a1, by rw [hall, if_neg n1]; exact a2, by rw [href, if_neg (fun e => n2 (print_inj hr a1 e))]; exact a3⟩) hpw2
    refine ⟨g1, fun r l => ?_, fun r => ?_⟩
    · show mget (addAll (addH H n lab) bp).ix.all r = some l ↔ _
      rw [g2, hall]
      by_cases e : n = r
      · subst e
        rw [if_pos rfl, ha]
        constructor
        · rintro (h | h)
          · cases h; exact .inr (List.mem_cons_self ..)
          · exact .inr (List.mem_cons_of_mem _ h)
        · rintro (h | h)
          · cases h
          · rcases List.mem_cons.1 h with h | h
            · cases h; exact .inl rfl
            · exact .inr h
      · rw [if_neg e]
        constructor
        · rintro (h | h)
          · exact .inl h
          · exact .inr (List.mem_cons_of_mem _ h)
        · rintro (h | h)
          · exact .inl h
          · rcases List.mem_cons.1 h with h | h
            · cases h; exact (e rfl).elim
            · exact .inr h
    · show (mget (addAll (addH H n lab) bp).pts r).getD [] = _
      rw [g3, hpts]
      by_cases e : n = r
      · subst e
        rw [if_pos rfl]
        have : mget H.pts n = none := by
          have := h.pk n
          rw [ha] at this
          cases hg : mget H.pts n with
          | none => rfl
          | some x => rw [hg] at this; cases this
        rw [this]
        rfl
      · rw [if_neg e]
/-! ### the points, put -/
theorem putAll_keys : ∀ (es : List En) (m m' : List (Int × List Pt)), putAll es m = (0, m') → (∀ e ∈ es, (mget m e.ref).isSome = true) → (m.map (·.1)).Nodup → (∀ r, (mget m' r).isSome = (mget m r).isSome) ∧ (m'.map (·.1)).Nodup
  | [], m, m', h, _, hn => by simp [putAll] at h; subst h; exact ⟨fun _ => rfl, hn⟩
  | e :: es, m, m', h, hk, hn => by
    rw [putAll] at h
    by_cases h0 : (putF ((mget m e.ref).getD []) e.p).2.2 ≠ 0
    · rw [if_pos h0] at h; exact (h0 (Prod.mk.inj h).1).elim
    · rw [if_neg h0] at h
      have hsame : ∀ r, (mget (mput m e.ref (putF ((mget m e.ref).getD []) e.p).1) r).isSome = (mget m r).isSome := fun r => by
        rw [mget_put]
        by_cases e2 : e.ref = r
        · rw [if_pos e2, ← e2, hk e (List.mem_cons_self ..)]; rfl
        · rw [if_neg e2]
      obtain ⟨g1, g2⟩ := putAll_keys es _ m' h (fun x hx => by rw [hsame]; exact hk x (List.mem_cons_of_mem _ hx)) (mput_nodup hn _ _)
      exact ⟨fun r => (g1 r).trans (hsame r), g2⟩
theorem wl_le (H : Hd) (seq : Int) (p : Pt) (r : Int) : ∀ (l : List (Po × Int)) (s : Wl), (wlAll H seq l s).1 = 0 → (∃ q, atP (nowF H s.will r) p.T = some q ∧ aheadB p q = false) → ∃ q, atP (nowF H (wlAll H seq l s).2.will r) p.T = some q ∧ aheadB p q = false
  | [], s, _, h => h
  | z :: l, s, h0, h => by
    rw [wlAll] at h0 ⊢
    by_cases h1 : (putF (nowF H s.will z.2) (ptOf seq z.1)).2.2 ≠ 0
    · rw [if_pos h1] at h0; exact (h1 h0).elim
    · rw [if_neg h1] at h0 ⊢
      refine wl_le H seq p r l _ h0 ?_
      have ok := put_has (by simpa using h1)
      obtain ⟨q, hq, ha⟩ := h
      unfold wlNext
      simp only
      rw [nowF_put]
      by_cases e : z.2 = r
      · rw [if_pos e, ok.at_]
        by_cases e2 : p.T = (ptOf seq z.1).T
        · rw [if_pos e2]
          rw [e2, ← e] at hq
          rw [hq]
          exact ⟨_, rfl, best_keep _ ha⟩
        · rw [if_neg e2, e]; exact ⟨q, hq, ha⟩
      · rw [if_neg e]; exact ⟨q, hq, ha⟩
theorem wl_new (H : Hd) (seq : Int) : ∀ (l : List (Po × Int)) (s : Wl), (wlAll H seq l s).1 = 0 → ∀ z ∈ l, ∃ q, atP (nowF H (wlAll H seq l s).2.will z.2) z.1.T = some q ∧ aheadB (ptOf seq z.1) q = false
  | [], s, _, z, hz => by simp at hz
  | y :: l, s, h0, z, hz => by
    rw [wlAll] at h0 ⊢
    by_cases h1 : (putF (nowF H s.will y.2) (ptOf seq y.1)).2.2 ≠ 0
    · rw [if_pos h1] at h0; exact (h1 h0).elim
    · rw [if_neg h1] at h0 ⊢
      rcases List.mem_cons.1 hz with rfl | hz
      · have ok := put_has (by simpa using h1)
        refine wl_le H seq (ptOf seq z.1) z.2 l _ h0 ?_
        unfold wlNext
        simp only
        rw [nowF_put, if_pos rfl, ok.at_, if_pos rfl]
        exact ⟨_, rfl, best_self _ _⟩
      · exact wl_new H seq l _ h0 z hz
theorem best_or (p : Pt) (o : Option Pt) : bestP p o = p ∨ o = some (bestP p o) := by
  cases o with
  | none => exact .inl rfl
  | some q =>
    show (if aheadB p q = true then p else q) = p ∨ some q = some (if aheadB p q = true then p else q)
    by_cases h : aheadB p q = true
    · rw [if_pos h]; exact .inl rfl
    · rw [if_neg h]; exact .inr rfl
theorem put_mem {l : List Pt} {p : Pt} {r : List Pt} (hl : Rising l) (h : PutOk l p r) {q : Pt} (hq : q ∈ r) : q ∈ l ∨ q = p := by
  have hr := ((rightP_iff r).1 h.right).1.2
  have ha := (at_iff hr q.T q).2 ⟨hq, rfl⟩
  rw [h.at_] at ha
  by_cases e : q.T = p.T
  · rw [if_pos e] at ha
    rcases best_or p (atP l p.T) with hb | hb
    · rw [hb] at ha; cases ha; exact .inr rfl
    · cases ha
      exact .inl ((at_iff hl _ _).1 hb).1
  · rw [if_neg e] at ha; exact .inl ((at_iff hl _ _).1 ha).1
theorem wl_mem (H : Hd) (seq : Int) : ∀ (l : List (Po × Int)) (s : Wl), (wlAll H seq l s).1 = 0 → (∀ r, Rising (nowF H s.will r)) → ∀ r q, q ∈ nowF H (wlAll H seq l s).2.will r → q ∈ nowF H s.will r ∨ ∃ z ∈ l, z.2 = r ∧ q = ptOf seq z.1
  | [], s, _, _, r, q, h => .inl h
  | y :: l, s, h0, hri, r, q, h => by
    rw [wlAll] at h0 h
    by_cases h1 : (putF (nowF H s.will y.2) (ptOf seq y.1)).2.2 ≠ 0
    · rw [if_pos h1] at h0; exact (h1 h0).elim
    · rw [if_neg h1] at h0 h
      have ok := put_has (by simpa using h1)
      have hn : ∀ r, nowF H (wlNext H seq s y).will r = if y.2 = r then (putF (nowF H s.will y.2) (ptOf seq y.1)).1 else nowF H s.will r := fun r => by
        unfold wlNext; exact nowF_put _ _ _ _ _
      rcases wl_mem H seq l _ h0 (fun r => by
          rw [hn]
          by_cases e : y.2 = r
          · rw [if_pos e]; exact ((rightP_iff _).1 ok.right).1.2
          · rw [if_neg e]; exact hri r) r q h with h | ⟨z, hz, a, b⟩
      · rw [hn] at h
        by_cases e : y.2 = r
        · rw [if_pos e] at h
          rcases put_mem (hri y.2) ok h with h | h
          · rw [← e]; exact .inl h
          · exact .inr ⟨y, List.mem_cons_self .., e, h⟩
        · rw [if_neg e] at h; exact .inl h
      · exact .inr ⟨z, List.mem_cons_of_mem _ hz, a, b⟩
theorem wl_right (H : Hd) (seq : Int) : ∀ (l : List (Po × Int)) (s : Wl), (wlAll H seq l s).1 = 0 → (∀ r, rightP (nowF H s.will r) = true) → ∀ r, rightP (nowF H (wlAll H seq l s).2.will r) = true
  | [], s, _, h, r => h r
  | y :: l, s, h0, hri, r => by
    rw [wlAll] at h0 ⊢
    by_cases h1 : (putF (nowF H s.will y.2) (ptOf seq y.1)).2.2 ≠ 0
    · rw [if_pos h1] at h0; exact (h1 h0).elim
    · rw [if_neg h1] at h0 ⊢
      have ok := put_has (by simpa using h1)
      refine wl_right H seq l _ h0 (fun r => ?_) r
      unfold wlNext
      simp only
      rw [nowF_put]
      by_cases e : y.2 = r
      · rw [if_pos e]; exact ok.right
      · rw [if_neg e]; exact hri r
end Go.Proofs.YtbjglcdoekbloaaGreatDoor

/- plain: what writes come to, whatever their order. -/
namespace Go.Proofs.YtbjglcdoekbloaaGreatDoor
open Go.Proofs.YtbjglcdoekbloaaGreatDoor.MapRaw

/-- a head holds the least of what was written -/
structure Holds (H : Hd) (C : List (List Lb × Pt)) : Prop where
  inv2 : Inv2 H
  ex : ∀ l, (getF H l).isSome = true ↔ ∃ c ∈ C, c.1 = l
  le : ∀ l lp, getF H l = some lp → ∀ p, (l, p) ∈ C → ∃ q, atP lp p.T = some q ∧ aheadB p q = false
  mem : ∀ l lp, getF H l = some lp → ∀ q ∈ lp, (l, q) ∈ C
theorem Holds.start : Holds H0 [] :=
  ⟨Inv2.start, fun l => by
    constructor
    · intro h
      obtain ⟨lp, h⟩ := Option.isSome_iff_exists.1 h
      obtain ⟨r, h1, _⟩ := (get_iff Inv2.start l lp).1 h
      simp [H0, mget] at h1
    · rintro ⟨c, hc, _⟩; simp at hc, fun l lp h p hp => by simp at hp, fun l lp h q hq => by
      obtain ⟨r, h1, _⟩ := (get_iff Inv2.start l lp).1 h
      simp [H0, mget] at h1⟩
/-- what a write tells -/
def saidF (x : Wr) : List (List Lb × Pt) := x.posts.map fun y => (y.lab, ptOf x.seq y)
theorem zip_prev {posts : List Po} {prev : List (List Lb × Int)} (h : prev.map (·.1) = posts.map Po.lab) : ∀ (i : Nat) (y : Po) (n : Int), posts[i]? = some y → (prev.map (·.2))[i]? = some n → (y.lab, n) ∈ prev := by
  intro i y n h1 h2
  have h3 := congrArg (fun l => l[i]?) h
  simp only [List.getElem?_map] at h2 h3
  rw [h1] at h3
  cases hp : prev[i]? with
  | none => rw [hp] at h2; cases h2
  | some p =>
    rw [hp] at h2 h3
    simp at h2 h3
    have := List.mem_of_getElem? hp
    rw [← h2, ← h3]
    exact this
theorem Holds.write {H H' : Hd} {N : Nat} {C : List (List Lb × Pt)} {x : Wr} {recs : List Rec} {bp : List (Int × List Lb)} {s' : Wl} {es : List En} (hI : Inv H N) (h : Holds H C) (d : DoneMore H x recs H' bp s' es) (hri : ∀ y ∈ x.posts, rightF y.lab = 0) :
    Holds H' (C ++ saidF x) ∧ (∀ r l, mget H'.ix.all r = some l ↔ mget H.ix.all r = some l ∨ (r, l) ∈ bp) := by
  have hfresh : ∀ p ∈ bp, rightF p.2 = 0 ∧ mget H.ix.all p.1 = none ∧ mget H.ix.refs (printF p.2) = none := fun p hp => by
    obtain ⟨h1, h2, _⟩ := d.lk.lab p hp
    obtain ⟨y, hy, e⟩ := List.mem_map.1 h1
    have hr : rightF p.2 = 0 := by rw [← e]; exact hri y hy
    refine ⟨hr, ?_, ?_⟩
    · obtain ⟨i, hi⟩ := List.getElem?_of_mem hp
      have h3 := d.lk.num i _ hi
      cases hg : mget H.ix.all p.1 with
      | none => rfl
      | some l => have := (hI.keys p.1 (by rw [hg]; rfl)).2; omega
    · unfold refF at h2
      rw [if_pos hr] at h2
      exact h2
  have hpw : bp.Pairwise (fun p q => p.1 ≠ q.1 ∧ p.2 ≠ q.2) := by
    rw [List.pairwise_iff_getElem]
    intro i j hi hj hij
    refine ⟨?_, (List.pairwise_iff_getElem.1 d.lk.pw) i j hi hj hij⟩
    have h1 := d.lk.num i _ (List.getElem?_eq_getElem hi)
    have h2 := d.lk.num j _ (List.getElem?_eq_getElem hj)
    omega
  obtain ⟨i2, hall, hpts⟩ := add_all bp H h.inv2 hfresh hpw
  have hall' : ∀ r l, mget H'.ix.all r = some l ↔ mget H.ix.all r = some l ∨ (r, l) ∈ bp := fun r l => by rw [d.ix]; exact hall r l
  -- whose number a post has
  have hof : ∀ z ∈ x.posts.zip (lookAll H.ix H.top (x.posts.map Po.lab)).of, mget H'.ix.all z.2 = some z.1.lab ∧ z.1 ∈ x.posts := fun z hz => by
    obtain ⟨i, hi⟩ := List.getElem?_of_mem hz
    rw [List.getElem?_zip_eq_some] at hi
    have hp := zip_prev d.prev i z.1 z.2 hi.1 hi.2
    refine ⟨?_, List.mem_of_getElem? hi.1⟩
    rw [hall']
    rcases d.lk.prev _ hp with hq | hq
    · obtain ⟨g1, g2⟩ := refF_some hq
      obtain ⟨l', g3, g4⟩ := h.inv2.ref _ _ g2
      have : l' = z.1.lab := print_inj (h.inv2.lab _ _ g3).1 g1 g4
      subst this
      exact .inl g3
    · exact .inr hq
  have hzip : ∀ y ∈ x.posts, ∃ z ∈ x.posts.zip (lookAll H.ix H.top (x.posts.map Po.lab)).of, z.1 = y := fun y hy => by
    obtain ⟨i, hi⟩ := List.getElem?_of_mem hy
    have hl : (lookAll H.ix H.top (x.posts.map Po.lab)).of.length = x.posts.length := by
      unfold Lk.of
      have := congrArg List.length d.prev
      simpa using this
    have h1 := (List.getElem?_eq_some_iff.1 hi).1
    refine ⟨(y, (lookAll H.ix H.top (x.posts.map Po.lab)).of[i]'(by omega)), ?_, rfl⟩
    refine List.mem_of_getElem? (i := i) ?_
    rw [List.getElem?_zip_eq_some]
    exact ⟨hi, List.getElem?_eq_getElem _⟩
  -- the keys of the points
  obtain ⟨k1, k2⟩ := putAll_keys es _ _ d.put (fun e he => by
    obtain ⟨z, hz, e1, _⟩ := d.pt e he
    have := (hof z hz).1
    rw [i2.pk, e1, ← d.ix, this]; rfl) i2.ndp
  have w0 : (wlAll H x.seq (x.posts.zip (lookAll H.ix H.top (x.posts.map Po.lab)).of) ⟨[], []⟩).1 = 0 := by rw [d.wl]
  have e0 : ∀ r, nowF H (⟨[], []⟩ : Wl).will r = (mget H.pts r).getD [] := fun r => rfl
  have hi' : Inv2 H' := by
    refine ⟨fun r l hl => ?_, fun s r hs => ?_, fun r => ?_, ?_, k2, fun r => ?_⟩
    · rw [d.ix] at hl ⊢; exact i2.lab r l hl
    · rw [d.ix] at hs ⊢; exact i2.ref s r hs
    · rw [k1, i2.pk, d.ix]
    · rw [d.ix]; exact i2.nda
    · rw [d.now]
      have hr := wl_right H x.seq _ _ w0 (fun r => by rw [e0]; exact h.inv2.right r) r
      rw [d.wl] at hr; exact hr
  refine ⟨⟨hi', fun l => ?_, fun l lp hg p hp => ?_, fun l lp hg q hq => ?_⟩, hall'⟩
  · rw [Option.isSome_iff_exists]
    constructor
    · rintro ⟨lp, hg⟩
      obtain ⟨r, h1, _⟩ := (get_iff hi' l lp).1 hg
      rcases (hall' r l).1 h1 with h1 | h1
      · have hs : (getF H l).isSome = true := by rw [(get_iff h.inv2 l _).2 ⟨r, h1, rfl⟩]; rfl
        obtain ⟨c, hc, e⟩ := (h.ex l).1 hs
        exact ⟨c, List.mem_append_left _ hc, e⟩
      · obtain ⟨a1, _, _⟩ := d.lk.lab _ h1
        obtain ⟨y, hy, e⟩ := List.mem_map.1 a1
        exact ⟨(y.lab, ptOf x.seq y), List.mem_append_right _ (List.mem_map.2 ⟨y, hy, rfl⟩), e⟩
    · rintro ⟨c, hc, e⟩
      rcases List.mem_append.1 hc with hc | hc
      · obtain ⟨lp, hg⟩ := Option.isSome_iff_exists.1 ((h.ex l).2 ⟨c, hc, e⟩)
        obtain ⟨r, h1, _⟩ := (get_iff h.inv2 l lp).1 hg
        exact ⟨_, (get_iff hi' l _).2 ⟨r, (hall' r l).2 (.inl h1), rfl⟩⟩
      · obtain ⟨y, hy, e2⟩ := List.mem_map.1 hc
        subst e2
        obtain ⟨z, hz, e3⟩ := hzip y hy
        have := (hof z hz).1
        rw [e3, show y.lab = l from e] at this
        exact ⟨_, (get_iff hi' l _).2 ⟨_, this, rfl⟩⟩
  · obtain ⟨r, h1, h2⟩ := (get_iff hi' l lp).1 hg
    rw [d.now] at h2
    subst h2
    rcases List.mem_append.1 hp with hp | hp
    · have hold : ∃ q, atP (nowF H (⟨[], []⟩ : Wl).will r) p.T = some q ∧ aheadB p q = false := by
        have hs := (h.ex l).2 ⟨_, hp, rfl⟩
        obtain ⟨lp0, hg0⟩ := Option.isSome_iff_exists.1 hs
        obtain ⟨r0, g1, g2⟩ := (get_iff h.inv2 l lp0).1 hg0
        have er : r0 = r := hi'.inj ((hall' r0 l).2 (.inl g1)) h1
        subst er
        rw [e0, g2]
        exact h.le l lp0 hg0 p hp
      have := wl_le H x.seq p r _ _ w0 hold
      rw [d.wl] at this; exact this
    · obtain ⟨y, hy, e2⟩ := List.mem_map.1 hp
      obtain ⟨el, ep⟩ := Prod.mk.inj e2
      obtain ⟨z, hz, e3⟩ := hzip y hy
      have hz1 := (hof z hz).1
      rw [e3, el] at hz1
      have er : z.2 = r := hi'.inj hz1 h1
      have := wl_new H x.seq _ _ w0 z hz
      rw [d.wl, er, e3] at this
      rw [← ep]
      exact this
  · obtain ⟨r, h1, h2⟩ := (get_iff hi' l lp).1 hg
    rw [d.now] at h2
    subst h2
    have hm := wl_mem H x.seq _ ⟨[], []⟩ w0 (fun r => by rw [e0]; exact ((rightP_iff _).1 (h.inv2.right r)).1.2) r q (by rw [d.wl]; exact hq)
    rcases hm with hm | ⟨z, hz, e1, e2⟩
    · rw [e0] at hm
      rcases (hall' r l).1 h1 with h1 | h1
      · exact List.mem_append_left _ (h.mem l _ ((get_iff h.inv2 l _).2 ⟨r, h1, rfl⟩) q hm)
      · have hn := (hfresh _ h1).2.1
        have hpk := h.inv2.pk r
        simp only at hn
        rw [hn] at hpk
        cases hg0 : mget H.pts r with
        | none => rw [hg0] at hm; simp at hm
        | some a => rw [hg0] at hpk; cases hpk
    · obtain ⟨g1, g2⟩ := hof z hz
      rw [e1, h1] at g1
      refine List.mem_append_right _ (List.mem_map.2 ⟨z.1, g2, ?_⟩)
      rw [← Option.some.inj g1, e2]
/-- the same told, in whatever order: the same is had -/
theorem holds_eq {H H' : Hd} {C C' : List (List Lb × Pt)} (h : Holds H C) (h' : Holds H' C') (hc : ∀ c, c ∈ C ↔ c ∈ C') (l : List Lb) : getF H l = getF H' l := by
  have key : ∀ {H H' : Hd} {C C' : List (List Lb × Pt)} (h : Holds H C) (h' : Holds H' C') (hc : ∀ c, c ∈ C ↔ c ∈ C') (lp lp' : List Pt), getF H l = some lp → getF H' l = some lp' → ∀ q, q ∈ lp → q ∈ lp' := by
    intro H H' C C' h h' hc lp lp' g g' q hq
    have hr : Rising lp := by
      obtain ⟨r, _, e⟩ := (get_iff h.inv2 l lp).1 g
      rw [← e]; exact ((rightP_iff _).1 (h.inv2.right r)).1.2
    have hr' : Rising lp' := by
      obtain ⟨r, _, e⟩ := (get_iff h'.inv2 l lp').1 g'
      rw [← e]; exact ((rightP_iff _).1 (h'.inv2.right r)).1.2
    have m1 := (hc _).1 (h.mem l lp g q hq)
    obtain ⟨q', a1, a2⟩ := h'.le l lp' g' q m1
    obtain ⟨b1, b2⟩ := (at_iff hr' _ _).1 a1
    have m2 := (hc _).2 (h'.mem l lp' g' q' b1)
    obtain ⟨q2, a3, a4⟩ := h.le l lp g q' m2
    rw [b2, (at_iff hr _ _).2 ⟨hq, rfl⟩] at a3
    cases a3
    rw [ahead_not] at a2 a4
    have : q' = q := by
      obtain ⟨T, V, S⟩ := q
      obtain ⟨T', V', S'⟩ := q'
      simp only at a2 a4 b2
      subst b2
      have : S = S' := by omega
      have : V = V' := by omega
      subst_vars
      rfl
    rw [this] at b1
    exact b1
  have hs : (getF H l).isSome = (getF H' l).isSome := by
    rw [Bool.eq_iff_iff, h.ex, h'.ex]
    exact ⟨fun ⟨c, a, b⟩ => ⟨c, (hc c).1 a, b⟩, fun ⟨c, a, b⟩ => ⟨c, (hc c).2 a, b⟩⟩
  cases g : getF H l with
  | none => rw [g] at hs; cases g' : getF H' l with
    | none => rfl
    | some b => rw [g'] at hs; cases hs
  | some lp => cases g' : getF H' l with
    | none => rw [g, g'] at hs; cases hs
    | some lp' =>
      obtain ⟨r, _, e⟩ := (get_iff h.inv2 l lp).1 g
      obtain ⟨r', _, e'⟩ := (get_iff h'.inv2 l lp').1 g'
      have hr : Rising lp := by rw [← e]; exact ((rightP_iff _).1 (h.inv2.right r)).1.2
      have hr' : Rising lp' := by rw [← e']; exact ((rightP_iff _).1 (h'.inv2.right r')).1.2
      rw [rising_ext hr hr' (fun q => ⟨key h h' hc lp lp' g g' q, key h' h (fun c => (hc c).symm) lp' lp g' g q⟩)]
/-! ### counting -/
theorem keys_perm {H : Hd} (h : Inv2 H) : (H.pts.map (·.1)).Perm (H.ix.all.map (·.1)) := by
  rw [List.perm_ext_iff_of_nodup h.ndp h.nda]
  intro r
  have := h.pk r
  rw [Bool.eq_iff_iff] at this
  have e1 : (mget H.pts r).isSome = true ↔ r ∈ H.pts.map (·.1) := by
    rw [← Decidable.not_iff_not, ← mget_none]; cases mget H.pts r <;> simp
  have e2 : (mget H.ix.all r).isSome = true ↔ r ∈ H.ix.all.map (·.1) := by
    rw [← Decidable.not_iff_not, ← mget_none]; cases mget H.ix.all r <;> simp
  rw [← e1, ← e2]; exact this
def labsOf (H : Hd) : List (List Lb) := (refsF H).map fun r => (mget H.ix.all r).getD []
theorem refs_has {H : Hd} (h : Inv2 H) {r : Int} (hr : r ∈ refsF H) : ∃ l, mget H.ix.all r = some l := by
  unfold refsF at hr
  have hk := (sorted_perm _).mem_iff.1 hr
  have hs : (mget H.pts r).isSome = true := by
    cases hg : mget H.pts r with
    | none => exact (mget_none.1 hg hk).elim
    | some x => rfl
  rw [h.pk] at hs
  exact Option.isSome_iff_exists.1 hs
theorem has_refs {H : Hd} (h : Inv2 H) {r : Int} {l : List Lb} (hr : mget H.ix.all r = some l) : r ∈ refsF H := by
  have hs : (mget H.pts r).isSome = true := by rw [h.pk, hr]; rfl
  unfold refsF
  refine (sorted_perm _).mem_iff.2 ?_
  by_cases hk : r ∈ H.pts.map (·.1)
  · exact hk
  · rw [mget_none.2 hk] at hs; cases hs
theorem labs_mem {H : Hd} (h : Inv2 H) (l : List Lb) : l ∈ labsOf H ↔ (getF H l).isSome = true := by
  unfold labsOf
  rw [List.mem_map]
  constructor
  · rintro ⟨r, hr, e⟩
    obtain ⟨l', hl⟩ := refs_has h hr
    rw [hl] at e
    simp at e
    subst e
    rw [(get_iff h _ _).2 ⟨r, hl, rfl⟩]; rfl
  · intro hs
    obtain ⟨lp, hg⟩ := Option.isSome_iff_exists.1 hs
    obtain ⟨r, h1, _⟩ := (get_iff h l lp).1 hg
    exact ⟨r, has_refs h h1, by rw [h1]; rfl⟩
theorem labs_nodup {H : Hd} (h : Inv2 H) : (labsOf H).Nodup := by
  have hn : (refsF H).Nodup := (sorted_perm _).nodup_iff.2 h.ndp
  unfold labsOf
  rw [List.nodup_iff_pairwise_ne, List.pairwise_map]
  refine (List.nodup_iff_pairwise_ne.1 hn).imp_of_mem ?_
  intro a b ha hb hne e
  obtain ⟨l, h1⟩ := refs_has h ha
  obtain ⟨l', h2⟩ := refs_has h hb
  rw [h1, h2] at e
  simp at e
  subst e
  exact hne (h.inj h1 h2)
theorem count_eq {H H' : Hd} (h : Inv2 H) (h' : Inv2 H') (he : ∀ l, getF H l = getF H' l) : H.ix.all.length = H'.ix.all.length ∧ cntP H = cntP H' := by
  have hp : (labsOf H).Perm (labsOf H') := by
    rw [List.perm_ext_iff_of_nodup (labs_nodup h) (labs_nodup h')]
    intro l
    rw [labs_mem h, labs_mem h', he]
  have hl : ∀ {H : Hd}, Inv2 H → (labsOf H).length = H.ix.all.length := fun {H} h => by
    have h1 := (keys_perm h).length_eq
    unfold labsOf
    rw [List.length_map]
    unfold refsF
    rw [sorted_len, h1, List.length_map]
  have hc : ∀ {H : Hd}, Inv2 H → cntP H = ((labsOf H).map fun l => ((getF H l).getD []).length).sum := fun {H} h => by
    unfold cntP labsOf
    rw [List.map_map]
    congr 1
    refine List.map_congr_left fun r hr => ?_
    obtain ⟨l, h1⟩ := refs_has h hr
    simp only [Function.comp_apply]
    rw [h1, Option.getD_some, (get_iff h l _).2 ⟨r, h1, rfl⟩, Option.getD_some]
  refine ⟨by rw [← hl h, ← hl h', hp.length_eq], ?_⟩
  rw [hc h, hc h']
  have : (fun l => ((getF H l).getD []).length) = fun l => ((getF H' l).getD []).length := funext fun l => by rw [he]
  rw [this]
  exact (hp.map _).sum_nat
end Go.Proofs.YtbjglcdoekbloaaGreatDoor
