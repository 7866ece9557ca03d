import Derived.Test.YtbjglcdoekbloaaGreatDoorGOrB
import Derived.Test.YtbjglcdoekbloaaGreatDoorGOrA
import Derived.Test.YtbjglcdoekbloaaGreatDoorGHdA
import Derived.Test.YtbjglcdoekbloaaGreatDoorGRvD
set_option linter.unusedSimpArgs false
set_option linter.unusedVariables false
set_option linter.unusedSectionVars false
/- plain: the document's head, and what a head has, as lists of series. -/
namespace Go.Proofs.YtbjglcdoekbloaaGreatDoor
open Go.Proofs.YtbjglcdoekbloaaGreatDoor.MapRaw

abbrev Ky := Int × List Lb × List Pt
def RiseK (L : List Ky) : Prop := L.Pairwise fun a b => a.1 < b.1
theorem riseK_cons {a : Ky} {l : List Ky} : RiseK (a :: l) ↔ (∀ b ∈ l, a.1 < b.1) ∧ RiseK l := List.pairwise_cons
theorem key_ext : ∀ {l r : List Ky}, RiseK l → RiseK r → (∀ q, q ∈ l ↔ q ∈ r) → l = r
  | [], [], _, _, _ => rfl
  | [], b :: r, _, _, h => by have := (h b).2 (List.mem_cons_self ..); simp at this
  | a :: l, [], _, _, h => by have := (h a).1 (List.mem_cons_self ..); simp at this
  | a :: l, b :: r, hl, hr, h => by
    obtain ⟨l1, l2⟩ := riseK_cons.1 hl
    obtain ⟨r1, r2⟩ := riseK_cons.1 hr
    have e : a = b := by
      have ha := (h a).1 (List.mem_cons_self ..)
      have hb := (h b).2 (List.mem_cons_self ..)
      rcases List.mem_cons.1 ha with ha | ha
      · exact ha
      · rcases List.mem_cons.1 hb with hb | hb
        · exact hb.symm
        · have := l1 b hb; have := r1 a ha; omega
    subst e
    rw [key_ext l2 r2 (fun q => ?_)]
    have hq := h q
    constructor
    · intro hm
      rcases List.mem_cons.1 (hq.1 (List.mem_cons_of_mem _ hm)) with rfl | hm2
      · have := l1 q hm; omega
      · exact hm2
    · intro hm
      rcases List.mem_cons.1 (hq.2 (List.mem_cons_of_mem _ hm)) with rfl | hm2
      · have := r1 q hm; omega
      · exact hm2
theorem refs_rise {H : Hd} (h : Inv2 H) : (refsF H).Pairwise (fun x y => x < y) := by
  have tr : ∀ x y z : Int, decide (x ≤ y) = true → decide (y ≤ z) = true → decide (x ≤ z) = true := fun x y z h1 h2 => by simp at *; omega
  have tot : ∀ x y : Int, (decide (x ≤ y) || decide (y ≤ x)) = true := fun x y => by simp; omega
  have h1 : (refsF H).Pairwise (fun x y => x ≤ y) := (List.pairwise_mergeSort tr tot _).imp (fun h => by simpa using h)
  have hn : (refsF H).Nodup := (sorted_perm _).nodup_iff.2 h.ndp
  exact (List.Pairwise.and h1 (List.nodup_iff_pairwise_ne.1 hn)).imp (fun ⟨a, b⟩ => by omega)

/-- a head has these series -/
structure OfH (H : Hd) (L : List Ky) : Prop where
  inv : Inv2 H
  num : ∀ r, (mget H.ix.all r).isSome = true → 1 ≤ r ∧ r < 4294967296
  rise : RiseK L
  mem : ∀ k : Ky, k ∈ L ↔ mget H.ix.all k.1 = some k.2.1 ∧ (mget H.pts k.1).getD [] = k.2.2
theorem OfH.all {H : Hd} {L : List Ky} (h : OfH H L) : allF H = L := by
  have hu : ∀ r ∈ refsF H, IntKind.u32.wrap r = r := fun r hr => by
    obtain ⟨l, hl⟩ := refs_has h.inv hr
    have := h.num r (by rw [hl]; rfl)
    exact u32_wrap (by omega) (by omega)
  refine key_ext ?_ h.rise (fun q => ?_)
  · unfold allF RiseK
    rw [List.pairwise_map]
    refine (refs_rise h.inv).imp_of_mem ?_
    intro a b ha hb hlt
    show IntKind.u32.wrap a < IntKind.u32.wrap b
    rw [hu a ha, hu b hb]; exact hlt
  · unfold allF
    rw [List.mem_map, h.mem]
    constructor
    · rintro ⟨r, hr, rfl⟩
      obtain ⟨l, hl⟩ := refs_has h.inv hr
      simp only [keyF]
      rw [hu r hr, hl]
      exact ⟨rfl, rfl⟩
    · rintro ⟨h1, h2⟩
      refine ⟨q.1, has_refs h.inv h1, ?_⟩
      unfold keyF
      rw [hu q.1 (has_refs h.inv h1), h1, h2]; rfl
theorem OfH.len {H : Hd} {L : List Ky} (h : OfH H L) : H.ix.all.length = L.length := by
  have := (keys_perm h.inv).length_eq
  rw [← h.all]; unfold allF refsF
  rw [List.length_map, sorted_len, this, List.length_map]
theorem OfH.cnt {H : Hd} {L : List Ky} (h : OfH H L) : cntP H = (L.map fun k => k.2.2.length).sum := by
  rw [← h.all]; unfold cntP allF; rw [List.map_map]; rfl
theorem OfH.has {H : Hd} {L : List Ky} (h : OfH H L) (r : Int) : L.any (fun k => decide (k.1 = r)) = (mget H.ix.all r).isSome := by
  rw [Bool.eq_iff_iff, List.any_eq_true]
  constructor
  · rintro ⟨k, hk, e⟩
    simp at e; subst e
    rw [((h.mem k).1 hk).1]; rfl
  · intro hs
    obtain ⟨l, hl⟩ := Option.isSome_iff_exists.1 hs
    exact ⟨(r, l, (mget H.pts r).getD []), (h.mem _).2 ⟨hl, rfl⟩, by simp⟩
theorem OfH.lab {H : Hd} {L : List Ky} (h : OfH H L) {lab : List Lb} (hr : rightF lab = 0) : L.any (fun k => decide (k.2.1 = lab)) = (mget H.ix.refs (printF lab)).isSome := by
  rw [Bool.eq_iff_iff, List.any_eq_true]
  constructor
  · rintro ⟨k, hk, e⟩
    simp at e; subst e
    rw [(h.inv.lab _ _ ((h.mem k).1 hk).1).2]; rfl
  · intro hs
    obtain ⟨r, hl⟩ := Option.isSome_iff_exists.1 hs
    obtain ⟨l', h1, h2⟩ := h.inv.ref _ _ hl
    have : l' = lab := print_inj (h.inv.lab _ _ h1).1 hr h2
    subst this
    exact ⟨(r, l', (mget H.pts r).getD []), (h.mem _).2 ⟨h1, rfl⟩, by simp⟩
theorem OfH.both {H : Hd} {L : List Ky} (h : OfH H L) (r : Int) (lab : List Lb) : L.any (fun k => decide (k.1 = r) && decide (k.2.1 = lab)) = true ↔ mget H.ix.all r = some lab := by
  rw [List.any_eq_true]
  constructor
  · rintro ⟨k, hk, e⟩
    simp at e; obtain ⟨rfl, rfl⟩ := e
    exact ((h.mem k).1 hk).1
  · intro hs
    exact ⟨(r, lab, (mget H.pts r).getD []), (h.mem _).2 ⟨hs, rfl⟩, by simp⟩
theorem OfH.get {H : Hd} {L : List Ky} (h : OfH H L) (q : List Lb) (lp : List Pt) : getF H q = some lp ↔ ∃ k ∈ L, k.2.1 = q ∧ k.2.2 = lp := by
  rw [get_iff h.inv]
  constructor
  · rintro ⟨r, h1, h2⟩
    exact ⟨(r, q, lp), (h.mem _).2 ⟨h1, h2⟩, rfl, rfl⟩
  · rintro ⟨k, hk, rfl, rfl⟩
    exact ⟨k.1, (h.mem k).1 hk⟩
theorem OfH.right {H : Hd} {L : List Ky} (h : OfH H L) : ∀ k ∈ L, rightP k.2.2 = true ∧ rightF k.2.1 = 0 := fun k hk => by
  obtain ⟨h1, h2⟩ := (h.mem k).1 hk
  rw [← h2]
  exact ⟨h.inv.right _, (h.inv.lab _ _ h1).1⟩
theorem OfH.start : OfH H0 [] := ⟨Inv2.start, fun r h => by simp [H0, mget] at h, List.Pairwise.nil, fun k => by simp [H0, mget]⟩

/-! ### a series more -/
def addL (L : List Ky) (x : Ky) : List Ky := L.filter (fun k => decide (k.1 < x.1)) ++ x :: L.filter (fun k => decide (x.1 < k.1))
theorem addL_mem {L : List Ky} {x k : Ky} : k ∈ addL L x ↔ (k ∈ L ∧ k.1 ≠ x.1) ∨ k = x := by
  unfold addL
  simp only [List.mem_append, List.mem_filter, List.mem_cons, decide_eq_true_eq]
  constructor
  · rintro (⟨h1, h2⟩ | rfl | ⟨h1, h2⟩)
    · exact .inl ⟨h1, by omega⟩
    · exact .inr rfl
    · exact .inl ⟨h1, by omega⟩
  · rintro (⟨h1, h2⟩ | rfl)
    · rcases Int.lt_or_gt_of_ne h2 with h3 | h3
      · exact .inl ⟨h1, h3⟩
      · exact .inr (.inr ⟨h1, h3⟩)
    · exact .inr (.inl rfl)
theorem addL_rise {L : List Ky} (h : RiseK L) (x : Ky) : RiseK (addL L x) := by
  unfold addL RiseK
  refine List.pairwise_append.2 ⟨List.Pairwise.filter _ h, List.pairwise_cons.2 ⟨fun b hb => ?_, List.Pairwise.filter _ h⟩, fun a ha b hb => ?_⟩
  · simpa using (List.mem_filter.1 hb).2
  · have h1 : a.1 < x.1 := by simpa using (List.mem_filter.1 ha).2
    rcases List.mem_cons.1 hb with rfl | hb
    · exact h1
    · have h2 : x.1 < b.1 := by simpa using (List.mem_filter.1 hb).2
      omega
theorem OfH.add {H : Hd} {L : List Ky} (h : OfH H L) {n : Int} {lab : List Lb} (hn : 1 ≤ n) (hn2 : n < 4294967296) (hr : rightF lab = 0) (ha : mget H.ix.all n = none) (hp : mget H.ix.refs (printF lab) = none) : OfH (addH H n lab) (addL L (n, lab, [])) := by
  obtain ⟨i2, hall, href, hpts⟩ := add_inv2 h.inv hr ha hp
  refine ⟨i2, fun r hs => ?_, addL_rise h.rise _, fun k => ?_⟩
  · rw [hall] at hs
    by_cases e : n = r
    · subst e; exact ⟨hn, hn2⟩
    · rw [if_neg e] at hs; exact h.num r hs
  · rw [addL_mem, h.mem, hall, hpts]
    by_cases e : n = k.1
    · rw [if_pos e, if_pos e]
      constructor
      · rintro (⟨_, h2⟩ | rfl)
        · exact (h2 e.symm).elim
        · exact ⟨rfl, rfl⟩
      · rintro ⟨h1, h2⟩
        right
        obtain ⟨r, l, p⟩ := k
        simp at e h1 h2
        subst e; subst h1; subst h2; rfl
    · rw [if_neg e, if_neg e]
      constructor
      · rintro (⟨h1, _⟩ | rfl)
        · exact h1
        · exact (e rfl).elim
      · exact fun h1 => .inl ⟨h1, fun e2 => e e2.symm⟩

/-! ### the points of a series turn -/
def setL (L : List Ky) (r : Int) (f : List Pt → List Pt) : List Ky := L.map fun k => if k.1 = r then (k.1, k.2.1, f k.2.2) else k
theorem setL_fst (L : List Ky) (r : Int) (f : List Pt → List Pt) : (setL L r f).map (·.1) = L.map (·.1) := by
  unfold setL
  rw [List.map_map]
  refine List.map_congr_left fun k _ => ?_
  simp only [Function.comp_apply]
  split <;> rfl
theorem rise_fst {L L' : List Ky} (h : RiseK L) (e : L'.map (·.1) = L.map (·.1)) : RiseK L' := by
  have h1 : (L.map (·.1)).Pairwise (fun a b : Int => a < b) := by rw [List.pairwise_map]; exact h
  rw [← e, List.pairwise_map] at h1
  exact h1
theorem OfH.set {H : Hd} {L : List Ky} (h : OfH H L) {r : Int} {f : List Pt → List Pt} (hs : (mget H.ix.all r).isSome = true) (hr : rightP (f ((mget H.pts r).getD [])) = true) : OfH ⟨H.ix, mput H.pts r (f ((mget H.pts r).getD [])), H.top⟩ (setL L r f) := by
  have hpts : ∀ q, mget (mput H.pts r (f ((mget H.pts r).getD []))) q = if r = q then some (f ((mget H.pts r).getD [])) else mget H.pts q := fun q => mget_put _ _ _ _
  refine ⟨⟨h.inv.lab, h.inv.ref, fun q => ?_, h.inv.nda, mput_nodup h.inv.ndp _ _, fun q => ?_⟩, h.num, rise_fst h.rise (setL_fst L r f), fun k => ?_⟩
  · show (mget (mput _ _ _) q).isSome = _
    rw [hpts]
    by_cases e : r = q
    · subst e; rw [if_pos rfl]; exact hs.symm
    · rw [if_neg e]; exact h.inv.pk q
  · show rightP ((mget (mput _ _ _) q).getD []) = true
    rw [hpts]
    by_cases e : r = q
    · subst e; rw [if_pos rfl]; exact hr
    · rw [if_neg e]; exact h.inv.right q
  · show _ ↔ mget H.ix.all k.1 = some k.2.1 ∧ (mget (mput _ _ _) k.1).getD [] = k.2.2
    rw [hpts]
    unfold setL
    rw [List.mem_map]
    by_cases e : r = k.1
    · rw [if_pos e, Option.getD_some]
      constructor
      · rintro ⟨a, ha, rfl⟩
        obtain ⟨h1, h2⟩ := (h.mem a).1 ha
        by_cases e2 : a.1 = r
        · rw [if_pos e2] at e ⊢
          rw [e, h2]; exact ⟨h1, rfl⟩
        · rw [if_neg e2] at e
          exact (e2 e.symm).elim
      · rintro ⟨h1, h2⟩
        refine ⟨(k.1, k.2.1, (mget H.pts k.1).getD []), (h.mem _).2 ⟨h1, rfl⟩, ?_⟩
        rw [if_pos e.symm]
        simp only
        rw [← e, h2, e]
    · rw [if_neg e]
      constructor
      · rintro ⟨a, ha, rfl⟩
        by_cases e2 : a.1 = r
        · rw [if_pos e2] at e
          exact (e e2.symm).elim
        · rw [if_neg e2]; exact (h.mem a).1 ha
      · intro h1
        exact ⟨k, (h.mem k).2 h1, by rw [if_neg (fun e2 => e e2.symm)]⟩

/-! ### records -/
def putK (L : List Ky) (x : En) : List Ky := setL L x.ref (fun l => (putF l x.p).1)
def recR (L : List Ky) (r : Rec) : Int × List Ky :=
  if checkF r ≠ 0 then (checkF r, L)
  else if r.kind = 1 then
    (if L.any (fun k => decide (k.1 = r.ref) && decide (k.2.1 = r.lab)) = true then (0, L)
     else if L.any (fun k => decide (k.1 = r.ref)) = true ∨ L.any (fun k => decide (k.2.1 = r.lab)) = true then (100, L)
     else if 4096 ≤ L.length then (5, L) else (0, addL L (r.ref, r.lab, [])))
  else if r.pts.any (fun x => !L.any (fun k => decide (k.1 = x.ref))) = true then (101, L)
  else if L.any (fun k => decide (65536 < k.2.2.length + cntF (r.pts.map En.ref) k.1)) = true then (5, L)
  else (0, r.pts.foldl putK L)
theorem cntF_cons (a : Int) (l : List Int) (r : Int) : cntF (a :: l) r = (if a = r then 1 else 0) + cntF l r := by
  unfold cntF
  rw [List.filter_cons]
  by_cases e : a = r
  · simp [e]; omega
  · simp [e]
theorem cntF_pos {l : List Int} {r : Int} (h : 0 < cntF l r) : r ∈ l := by
  unfold cntF at h
  obtain ⟨x, hx⟩ := List.exists_mem_of_length_pos h
  have := List.mem_filter.1 hx
  simp at this
  exact this.2 ▸ this.1
theorem put_all_same : ∀ (es : List En) (H : Hd) (L : List Ky), OfH H L → (∀ x ∈ es, x.p.S ≠ 0 ∧ (mget H.ix.all x.ref).isSome = true) → (∀ r, ((mget H.pts r).getD []).length + cntF (es.map En.ref) r ≤ 65536) →
    (putAll es H.pts).1 = 0 ∧ OfH ⟨H.ix, (putAll es H.pts).2, H.top⟩ (es.foldl putK L)
  | [], H, L, h, _, _ => ⟨rfl, h⟩
  | x :: es, H, L, h, hx, hc => by
    obtain ⟨hs, ha⟩ := hx x (List.mem_cons_self ..)
    have hc1 := hc x.ref
    rw [List.map_cons, cntF_cons, if_pos rfl] at hc1
    obtain ⟨e0, hok⟩ := put_ok (h.inv.right x.ref) hs (by omega)
    have h1 := h.set (f := fun l => (putF l x.p).1) ha hok.right
    obtain ⟨g1, g2⟩ := put_all_same es _ _ h1 (fun y hy => hx y (List.mem_cons_of_mem _ hy)) (fun r => by
      have hcr := hc r
      rw [List.map_cons, cntF_cons] at hcr
      show ((mget (mput _ _ _) r).getD []).length + _ ≤ _
      rw [mget_put]
      by_cases e : x.ref = r
      · subst e
        rw [if_pos rfl, Option.getD_some]
        have := hok.len.2
        rw [if_pos rfl] at hcr
        omega
      · rw [if_neg e]
        rw [if_neg e] at hcr
        omega)
    rw [putAll, if_neg (by simp [e0]), List.foldl_cons]
    exact ⟨g1, g2⟩
theorem check_pts {r : Rec} (h0 : checkF r = 0) (h1 : r.kind ≠ 1) : ∀ x ∈ r.pts, x.p.S ≠ 0 := by
  unfold checkF at h0
  rw [if_neg h1] at h0
  by_cases h2 : r.kind = 2
  · rw [if_pos h2] at h0
    by_cases h3 : r.ref ≠ 0 ∨ r.lab ≠ [] ∨ r.pts = []
    · rw [if_pos h3] at h0; cases h0
    · rw [if_neg h3] at h0
      by_cases h4 : 256 < r.pts.length
      · rw [if_pos h4] at h0; cases h0
      · rw [if_neg h4] at h0
        unfold anyBad at h0
        have h5 : r.pts.any badEn = false := by
          cases hb : r.pts.any badEn with
          | false => rfl
          | true => rw [hb, if_pos rfl] at h0; cases h0
        intro x hx e
        have := List.any_eq_false.1 h5 x hx
        simp [badEn, e] at this
  · rw [if_neg h2] at h0; cases h0
theorem check_series {r : Rec} (h0 : checkF r = 0) (h1 : r.kind = 1) : r.ref ≠ 0 ∧ rightF r.lab = 0 := by
  unfold checkF at h0
  rw [if_pos h1] at h0
  by_cases h3 : r.ref = 0 ∨ r.pts ≠ []
  · rw [if_pos h3] at h0; cases h0
  · rw [if_neg h3] at h0
    exact ⟨fun e => h3 (.inl e), h0⟩
theorem rec_same {H : Hd} {L : List Ky} (h : OfH H L) (r : Rec) (hu : U32 r.ref) : ∃ H', recordF H r = ((recR L r).1, H') ∧ OfH H' (recR L r).2 := by
  unfold recordF recR
  by_cases h0 : checkF r ≠ 0
  · rw [if_pos h0, if_pos h0]; exact ⟨H, rfl, h⟩
  · rw [if_neg h0, if_neg h0]
    have h00 : checkF r = 0 := by simpa using h0
    by_cases h1 : r.kind = 1
    · rw [if_pos h1, if_pos h1]
      obtain ⟨hz, hr⟩ := check_series h00 h1
      unfold seriesF
      by_cases hb : mget H.ix.all r.ref = some r.lab
      · rw [if_pos hb, if_pos ((h.both _ _).2 hb)]; exact ⟨H, rfl, h⟩
      · rw [if_neg hb, if_neg (fun g => hb ((h.both _ _).1 g))]
        rw [h.has, h.lab hr]
        unfold addR addErr
        rw [if_neg (by simp [hr] : ¬ rightF r.lab ≠ 0), ← h.len]
        by_cases hc : (mget H.ix.all r.ref).isSome = true ∨ (mget H.ix.refs (printF r.lab)).isSome = true
        · rw [if_pos hc, if_pos hc, if_pos (by decide)]; exact ⟨H, rfl, h⟩
        · rw [if_neg hc, if_neg hc]
          by_cases hd : 4096 ≤ H.ix.all.length
          · rw [if_pos hd, if_pos hd, if_pos (by decide)]; exact ⟨H, rfl, h⟩
          · rw [if_neg hd, if_neg hd, if_neg (by decide)]
            have ha : mget H.ix.all r.ref = none := by
              cases hg : mget H.ix.all r.ref with
              | none => rfl
              | some z => rw [hg] at hc; simp at hc
            have hp : mget H.ix.refs (printF r.lab) = none := by
              cases hg : mget H.ix.refs (printF r.lab) with
              | none => rfl
              | some z => rw [hg] at hc; simp at hc
            have h9 := hu.1
            have h8 := hu.2
            exact ⟨_, rfl, h.add (by omega) h8 hr ha hp⟩
    · rw [if_neg h1, if_neg h1]
      unfold ptsF
      have e1 : r.pts.any (fun x => !L.any (fun k => decide (k.1 = x.ref))) = r.pts.any (lostB H) := by
        congr 1
        funext x
        rw [h.has]
        unfold lostB
        cases mget H.ix.all x.ref <;> rfl
      rw [e1]
      by_cases hl : r.pts.any (lostB H) = true
      · rw [if_pos hl, if_pos hl]; exact ⟨H, rfl, h⟩
      · rw [if_neg hl, if_neg hl]
        have e2 : L.any (fun k => decide (65536 < k.2.2.length + cntF (r.pts.map En.ref) k.1)) = r.pts.any (muchB H r.pts) := by
          rw [Bool.eq_iff_iff, List.any_eq_true, List.any_eq_true]
          constructor
          · rintro ⟨k, hk, e⟩
            simp only [decide_eq_true_eq] at e
            obtain ⟨g1, g2⟩ := (h.mem k).1 hk
            have hk5 := (rightP_rising (h.inv.right k.1)).2
            rw [g2] at hk5
            obtain ⟨x, hx, ex⟩ := List.mem_map.1 (cntF_pos (by omega : 0 < cntF (r.pts.map En.ref) k.1))
            refine ⟨x, hx, ?_⟩
            unfold muchB
            rw [ex, g2]
            simp; omega
          · rintro ⟨x, hx, e⟩
            unfold muchB at e
            have hs : (mget H.ix.all x.ref).isSome = true := by
              have := List.any_eq_false.1 (by simpa using hl : r.pts.any (lostB H) = false) x hx
              unfold lostB at this
              cases hg : mget H.ix.all x.ref with
              | none => rw [hg] at this; simp at this
              | some z => rfl
            obtain ⟨l, hl⟩ := Option.isSome_iff_exists.1 hs
            refine ⟨(x.ref, l, (mget H.pts x.ref).getD []), (h.mem _).2 ⟨hl, rfl⟩, ?_⟩
            simp only [decide_eq_true_eq] at e ⊢
            omega
        rw [e2]
        by_cases hm : r.pts.any (muchB H r.pts) = true
        · rw [if_pos hm, if_pos hm]; exact ⟨H, rfl, h⟩
        · rw [if_neg hm, if_neg hm]
          have hs : ∀ x ∈ r.pts, x.p.S ≠ 0 ∧ (mget H.ix.all x.ref).isSome = true := fun x hx => by
            refine ⟨check_pts h00 h1 x hx, ?_⟩
            have := List.any_eq_false.1 (by simpa using hl : r.pts.any (lostB H) = false) x hx
            unfold lostB at this
            cases hg : mget H.ix.all x.ref with
            | none => rw [hg] at this; simp at this
            | some z => rfl
          have hc : ∀ q, ((mget H.pts q).getD []).length + cntF (r.pts.map En.ref) q ≤ 65536 := fun q => by
            have h5 := (rightP_rising (h.inv.right q)).2
            by_cases h6 : 0 < cntF (r.pts.map En.ref) q
            · obtain ⟨x, hx, ex⟩ := List.mem_map.1 (cntF_pos h6)
              have := List.any_eq_false.1 (by simpa using hm : r.pts.any (muchB H r.pts) = false) x hx
              unfold muchB at this
              rw [ex] at this
              simp at this
              omega
            · omega
          obtain ⟨g1, g2⟩ := put_all_same r.pts H L h hs hc
          exact ⟨_, by rw [g1], g2⟩
end Go.Proofs.YtbjglcdoekbloaaGreatDoor

/- plain: what is wrong with series, and the head that is made of them. -/
namespace Go.Proofs.YtbjglcdoekbloaaGreatDoor
open Go.Proofs.YtbjglcdoekbloaaGreatDoor.MapRaw

def rightS1 : Int → List Ky → Int
  | _, [] => 0
  | was, k :: L => if k.1 ≤ was then 1 else if rightF k.2.1 ≠ 0 then rightF k.2.1 else if rightP k.2.2 = false then 1 else rightS1 k.1 L
def labAt (L : List Ky) (i : Nat) : List Lb := (L[i]?.map (·.2.1)).getD []
def twiceAt (L : List Ky) (i : Nat) : Bool := (List.range i).any fun j => decide (labAt L i = labAt L j)
def twiceS (L : List Ky) : Bool := (List.range L.length).any (twiceAt L)
def rightS (L : List Ky) : Int := if 4096 < L.length then 3 else if rightS1 0 L ≠ 0 then rightS1 0 L else if twiceS L = true then 52 else 0
/-- where the first loop stands -/
def prevK (L : List Ky) (k : Nat) : Int := match k with | 0 => 0 | j + 1 => (L[j]?.map (·.1)).getD 0
structure RsTo (L : List Ky) (k : Nat) : Prop where
  eq : rightS1 0 L = rightS1 (prevK L k) (L.drop k)
theorem RsTo.start (L : List Ky) : RsTo L 0 := ⟨rfl⟩
theorem RsTo.round {L : List Ky} {k : Nat} (h : RsTo L k) (hk : k < L.length) :
    (L[k].1 ≤ prevK L k ∧ rightS1 0 L = 1) ∨ (¬ L[k].1 ≤ prevK L k ∧ rightF L[k].2.1 ≠ 0 ∧ rightS1 0 L = rightF L[k].2.1) ∨ (¬ L[k].1 ≤ prevK L k ∧ rightF L[k].2.1 = 0 ∧ rightP L[k].2.2 = false ∧ rightS1 0 L = 1) ∨ (¬ L[k].1 ≤ prevK L k ∧ rightF L[k].2.1 = 0 ∧ rightP L[k].2.2 = true ∧ prevK L (k + 1) = L[k].1 ∧ RsTo L (k + 1)) := by
  have e := h.eq
  rw [List.drop_eq_getElem_cons hk, rightS1] at e
  have hp : prevK L (k + 1) = L[k].1 := by simp [prevK, List.getElem?_eq_getElem hk]
  by_cases h1 : L[k].1 ≤ prevK L k
  · rw [if_pos h1] at e; exact .inl ⟨h1, e⟩
  · rw [if_neg h1] at e
    by_cases h2 : rightF L[k].2.1 ≠ 0
    · rw [if_pos h2] at e; exact .inr (.inl ⟨h1, h2, e⟩)
    · rw [if_neg h2] at e
      have h22 : rightF L[k].2.1 = 0 := by simpa using h2
      cases h3 : rightP L[k].2.2 with
      | false => rw [if_pos h3] at e; exact .inr (.inr (.inl ⟨h1, h22, rfl, e⟩))
      | true =>
        rw [if_neg (by simp [h3])] at e
        exact .inr (.inr (.inr ⟨h1, h22, rfl, hp, ⟨by rw [hp]; exact e⟩⟩))
theorem RsTo.done {L : List Ky} {k : Nat} (h : RsTo L k) (hk : ¬ k < L.length) : rightS1 0 L = 0 := by
  rw [h.eq, List.drop_eq_nil_of_le (by omega)]; rfl
theorem rightS1_zero : ∀ (L : List Ky) (was : Int), rightS1 was L = 0 → (∀ k ∈ L, was < k.1 ∧ rightF k.2.1 = 0 ∧ rightP k.2.2 = true) ∧ RiseK L
  | [], _, _ => ⟨fun k hk => by simp at hk, List.Pairwise.nil⟩
  | k :: L, was, h => by
    rw [rightS1] at h
    by_cases h1 : k.1 ≤ was
    · rw [if_pos h1] at h; cases h
    · rw [if_neg h1] at h
      by_cases h2 : rightF k.2.1 ≠ 0
      · rw [if_pos h2] at h; exact (h2 h).elim
      · rw [if_neg h2] at h
        cases h3 : rightP k.2.2 with
        | false => rw [if_pos h3] at h; cases h
        | true =>
          rw [if_neg (by simp [h3])] at h
          obtain ⟨g1, g2⟩ := rightS1_zero L k.1 h
          refine ⟨fun y hy => ?_, riseK_cons.2 ⟨fun b hb => (g1 b hb).1, g2⟩⟩
          rcases List.mem_cons.1 hy with rfl | hy
          · exact ⟨by omega, by simpa using h2, h3⟩
          · obtain ⟨a, b⟩ := g1 y hy
            exact ⟨by omega, b⟩
structure RightK (L : List Ky) : Prop where
  len : L.length ≤ 4096
  ok : ∀ k ∈ L, 0 < k.1 ∧ rightF k.2.1 = 0 ∧ rightP k.2.2 = true
  rise : RiseK L
  ne : ∀ i j, j < i → i < L.length → labAt L i ≠ labAt L j
theorem rightS_zero {L : List Ky} (h : rightS L = 0) : RightK L := by
  unfold rightS at h
  by_cases h1 : 4096 < L.length
  · rw [if_pos h1] at h; cases h
  · rw [if_neg h1] at h
    by_cases h2 : rightS1 0 L ≠ 0
    · rw [if_pos h2] at h; exact (h2 h).elim
    · rw [if_neg h2] at h
      cases h3 : twiceS L with
      | true => rw [if_pos h3] at h; cases h
      | false =>
        obtain ⟨g1, g2⟩ := rightS1_zero L 0 (by simpa using h2)
        refine ⟨by omega, g1, g2, fun i j hj hi e => ?_⟩
        have h4 := List.any_eq_false.1 h3 i (List.mem_range.2 hi)
        have h5 := List.any_eq_false.1 (by simpa using h4 : twiceAt L i = false) j (List.mem_range.2 hj)
        simp [e] at h5

/-! ### the head -/
def ofStep (H : Hd) (k : Ky) : Hd := ⟨(addH H k.1 k.2.1).ix, mput (addH H k.1 k.2.1).pts k.1 k.2.2, (addH H k.1 k.2.1).top⟩
def ofF (L : List Ky) : Hd := L.foldl ofStep H0
theorem of_take (L : List Ky) (k : Nat) (hk : k < L.length) : ofF (L.take (k + 1)) = ofStep (ofF (L.take k)) L[k] := by
  unfold ofF; rw [List.take_succ_eq_append_getElem hk, List.foldl_append]; rfl
theorem add_last {L : List Ky} {x : Ky} (h : ∀ k ∈ L, k.1 < x.1) : addL L x = L ++ [x] := by
  unfold addL
  rw [List.filter_eq_self.2 (fun k hk => by simpa using h k hk), List.filter_eq_nil_iff.2 (fun k hk => by have := h k hk; simp; omega)]
theorem of_step {L : List Ky} (hR : RightK L) (hu : ∀ k ∈ L, k.1 < 4294967296) {k : Nat} (hk : k < L.length) (h : OfH (ofF (L.take k)) (L.take k)) :
    addErr (ofF (L.take k)).ix L[k].1 L[k].2.1 = 0 ∧ OfH (ofF (L.take (k + 1))) (L.take (k + 1)) := by
  have hm := List.getElem_mem hk
  obtain ⟨o1, o2, o3⟩ := hR.ok _ hm
  have hlt : ∀ y ∈ L.take k, y.1 < L[k].1 := by
    intro y hy
    obtain ⟨i, hi, e⟩ := List.getElem_of_mem hy
    have hi2 : i < k := by simp at hi; omega
    have := List.pairwise_iff_getElem.1 hR.rise i k (by omega) hk hi2
    rw [← e, List.getElem_take]; exact this
  have hlab : ∀ y ∈ L.take k, y.2.1 ≠ L[k].2.1 := by
    intro y hy e2
    obtain ⟨i, hi, e⟩ := List.getElem_of_mem hy
    have hi2 : i < k := by simp at hi; omega
    refine hR.ne k i hi2 hk ?_
    unfold labAt
    rw [List.getElem?_eq_getElem hk, List.getElem?_eq_getElem (by omega)]
    rw [List.getElem_take] at e
    simp only [Option.map_some, Option.getD_some]
    rw [e, e2]
  rw [of_take L k hk, List.take_succ_eq_append_getElem hk]
  generalize L[k] = x at *
  obtain ⟨n, lab, lp⟩ := x
  simp only at o1 o2 o3 hlt hlab ⊢
  have ha : mget (ofF (L.take k)).ix.all n = none := by
    cases hg : mget (ofF (L.take k)).ix.all n with
    | none => rfl
    | some l => have := hlt _ ((h.mem (n, l, (mget (ofF (L.take k)).pts n).getD [])).2 ⟨hg, rfl⟩); simp at this
  have hp : mget (ofF (L.take k)).ix.refs (printF lab) = none := by
    cases hg : mget (ofF (L.take k)).ix.refs (printF lab) with
    | none => rfl
    | some r =>
      have hs := h.lab o2
      rw [hg] at hs
      obtain ⟨y, hy, e⟩ := List.any_eq_true.1 hs
      simp at e
      exact (hlab y hy e).elim
  have hle := h.len
  have h4 := hR.len
  refine ⟨?_, ?_⟩
  · unfold addErr
    rw [if_neg (by simp [o2]), if_neg (by simp [ha, hp]), if_neg (by rw [hle, List.length_take]; omega)]
  · have h1 := h.add (n := n) (lab := lab) (by omega) (hu _ hm) o2 ha hp
    have hs : (mget (addH (ofF (L.take k)) n lab).ix.all n).isSome = true := by
      show (mget (mput _ _ _) n).isSome = true
      rw [mget_put, if_pos rfl]; rfl
    have h2 := h1.set (r := n) (f := fun _ => lp) hs o3
    have e : setL (addL (L.take k) (n, lab, [])) n (fun _ => lp) = L.take k ++ [(n, lab, lp)] := by
      rw [add_last hlt]
      unfold setL
      rw [List.map_append]
      congr 1
      · rw [List.map_congr_left (g := id) (fun y hy => by have := hlt y hy; rw [if_neg (by omega)]; rfl), List.map_id]
      · simp
    rw [e] at h2
    exact h2
theorem addL_len (L : List Ky) (x : Ky) : (addL L x).length ≤ L.length + 1 := by
  unfold addL
  rw [List.length_append, List.length_cons]
  have : ∀ (L : List Ky), (L.filter (fun k => decide (k.1 < x.1))).length + (L.filter (fun k => decide (x.1 < k.1))).length ≤ L.length := by
    intro L
    induction L with
    | nil => simp
    | cons y L ih =>
      rw [List.filter_cons, List.filter_cons]
      by_cases h1 : y.1 < x.1
      · have h2 : ¬ x.1 < y.1 := by omega
        simp [h1, h2]; omega
      · by_cases h2 : x.1 < y.1
        · simp [h1, h2]; omega
        · simp [h1, h2]; omega
  have := this L
  omega
theorem puts_len : ∀ (es : List En) (L : List Ky), (es.foldl putK L).length = L.length
  | [], _ => rfl
  | x :: es, L => by rw [List.foldl_cons, puts_len es]; simp [putK, setL]
theorem rec_len {L : List Ky} {r : Rec} (h : L.length ≤ 4096) : (recR L r).2.length ≤ 4096 := by
  unfold recR
  repeat' split
  all_goals first | exact h | (rw [puts_len]; exact h) | (have := addL_len L (r.ref, r.lab, []); simp only; omega)
end Go.Proofs.YtbjglcdoekbloaaGreatDoor

/- the document's head in memory. -/
namespace Go.Proofs.YtbjglcdoekbloaaGreatDoor
open Go.RowKit Go.Proofs.YtbjglcdoekbloaaGreatDoor.MapRaw Go.ChangeMaps

structure RfAt (w : World) (X : List Nat) (xp : Nat) (v : Value) (l : List Sr) : Prop where
  hc : w.heap[xp]? = some (.cells #[v] 107 (0, 0))
  own : ∃ B, w.ownsRow B 66 3 v l.length (l.flatMap Sr.enc)
  blk : ∀ j, v.ownBlock = some j → j ∈ X ∧ j ≠ xp
  mem : xp ∈ X
  ok : SrOk w (fun k => k ∉ X) l
def blksR (xp : Nat) (v : Value) (k : Nat) : Prop := k = xp ∨ v.ownBlock = some k
theorem RfAt.slc {w : World} {X : List Nat} {xp : Nat} {v : Value} {l : List Sr} (h : RfAt w X xp v l) : Slc 3 Sr.enc w (fun _ => True) v l := by
  obtain ⟨B, ho⟩ := h.own
  exact (own_slc sr_len rfl ho).mono (fun _ _ _ => trivial)
theorem RfAt.lt {w : World} {X : List Nat} {xp : Nat} {v : Value} {l : List Sr} (h : RfAt w X xp v l) : ∀ k, blksR xp v k → k < w.heap.size := fun k hk => by
  rcases hk with rfl | hk
  · exact (Array.getElem?_eq_some_iff.1 h.hc).1
  · obtain ⟨B, ho⟩ := h.own
    exact (ownsRow_blk ho k hk).2
theorem RfAt.sub {w : World} {X : List Nat} {xp : Nat} {v : Value} {l : List Sr} (h : RfAt w X xp v l) : ∀ k, blksR xp v k → k ∈ X := fun k hk => by
  rcases hk with rfl | hk
  · exact h.mem
  · exact (h.blk k hk).1
theorem RfAt.turn {w w' : World} {X X' : List Nat} {xp : Nat} {v : Value} {l : List Sr} {P : Nat → Prop} (h : RfAt w X xp v l) (hA : Apart P w w') (hP : ∀ k, P k → k ∈ X) (hn : ∀ k, blksR xp v k → ¬ P k) (hX : MoreX w X X') : RfAt w' X' xp v l := by
  refine ⟨(hA.block xp (h.lt xp (.inl rfl)) (hn xp (.inl rfl))).trans h.hc, ?_, fun j hj => ⟨hX.old j (h.blk j hj).1, (h.blk j hj).2⟩, hX.old _ h.mem, ?_⟩
  · obtain ⟨B, ho⟩ := h.own
    exact ⟨B, ownsRow_move ho (fun k hk => hA.block k (h.lt k (.inr hk)) (hn k (.inr hk)))⟩
  · exact ((SrOk.mono (D' := fun k => k ∉ X ∧ k ∉ X') h.ok (fun k hk hkX => ⟨hkX, hX.out hk hkX⟩)).move hA.size (fun k hk hD => hA.block k hk (fun hp => hD.1 (hP k hp)))).mono (fun k _ hD => hD.2)
theorem RfAt.below {w w' : World} {X : List Nat} {xp : Nat} {v : Value} {l : List Sr} (h : RfAt w X xp v l) (hb : Below w.heap.size w w') : RfAt w' X xp v l :=
  h.turn (P := fun _ => False) (below_apart hb _) (fun _ h => h.elim) (fun _ _ h => h) (MoreX.refl _ _)
/-- the document's head turned, all else stays -/
structure RTurned (w : World) (X : List Nat) (xp : Nat) (v : Value) (w' : World) (X' : List Nat) (v' : Value) (L' : List Ky) : Prop where
  at_ : ∃ l', RfAt w' X' xp v' l' ∧ l'.map Sr.key = L'
  more : MoreX w X X'
  lt : ∀ k ∈ X', k < w'.heap.size
  apart : Apart (blksR xp v) w w'
  fine : v'.ownBlock = v.ownBlock ∨ ∀ j, v'.ownBlock = some j → w.heap.size ≤ j
def RTurnPost (w : World) (X : List Nat) (xp : Nat) (v : Value) (r : Int × List Ky) (e : Ending) (w' : World) : Prop := e = .returned (.int .i64 r.1) ∧ ∃ X' v', RTurned w X xp v w' X' v' r.2
theorem RTurned.same {w w' : World} {X : List Nat} {xp : Nat} {v : Value} {l : List Sr} (h : RfAt w X xp v l) (hX : ∀ k ∈ X, k < w.heap.size) (hb : Below w.heap.size w w') : RTurned w X xp v w' X v (l.map Sr.key) :=
  ⟨⟨l, h.below hb, rfl⟩, MoreX.refl _ _, fun k hk => Nat.lt_of_lt_of_le (hX k hk) hb.size, below_apart hb _, .inl rfl⟩
theorem RTurned.then {w w1 w2 : World} {X X1 : List Nat} {xp : Nat} {v v1 : Value} {L1 : List Ky} (h : RTurned w X xp v w1 X1 v1 L1) (hb : Below w1.heap.size w1 w2) : RTurned w X xp v w2 X1 v1 L1 := by
  obtain ⟨l, h1, h2⟩ := h.at_
  exact ⟨⟨l, h1.below hb, h2⟩, h.more, fun k hk => Nat.lt_of_lt_of_le (h.lt k hk) hb.size, h.apart.then hb, h.fine⟩
theorem RTurned.pre {w w1 w2 : World} {X X1 : List Nat} {xp : Nat} {v v1 : Value} {L1 : List Ky} (hb : Below w.heap.size w w1) (h : RTurned w1 X xp v w2 X1 v1 L1) : RTurned w X xp v w2 X1 v1 L1 :=
  ⟨h.at_, ⟨h.more.old, fun k hk => (h.more.new k hk).imp id (fun h => Nat.le_trans hb.size h)⟩, h.lt, (below_apart hb _).trans h.apart (fun _ _ h => h), h.fine.imp id (fun g j hj => Nat.le_trans hb.size (g j hj))⟩

/-- both heads, alike -/
structure Pr (w0 : World) (hp xp : Nat) (H : Hd) (L : List Ky) (o : HLoc) (X : List Nat) (v : Value) (l : List Sr) (wr : World) : Prop where
  head : HeadAt wr X o H
  hp : o.hp = hp
  ref : RfAt wr X xp v l
  keys : l.map Sr.key = L
  of : OfH H L
  sep : ∀ k, blksR xp v k → k ∉ blksH o
  new : ∀ k ∈ X, w0.heap.size ≤ k
  below : Below w0.heap.size w0 wr
theorem Pr.then {w0 wr w2 : World} {hp xp : Nat} {H : Hd} {L : List Ky} {o : HLoc} {X : List Nat} {v : Value} {l : List Sr} (h : Pr w0 hp xp H L o X v l wr) (hb : Below wr.heap.size wr w2) : Pr w0 hp xp H L o X v l w2 :=
  ⟨h.head.below hb, h.hp, h.ref.below hb, h.keys, h.of, h.sep, h.new, bthen h.below hb⟩
/-- the head turned, the document's not yet -/
structure PrMid (w0 : World) (hp xp : Nat) (H : Hd) (L : List Ky) (o : HLoc) (X : List Nat) (v : Value) (l : List Sr) (wr : World) : Prop where
  head : HeadAt wr X o H
  hp : o.hp = hp
  ref : RfAt wr X xp v l
  keys : l.map Sr.key = L
  sep : ∀ k, blksR xp v k → k ∉ blksH o
  new : ∀ k ∈ X, w0.heap.size ≤ k
  below : Below w0.heap.size w0 wr
theorem Pr.turnH {w0 wr w2 : World} {hp xp : Nat} {H H' : Hd} {L : List Ky} {o o' : HLoc} {X X' : List Nat} {v : Value} {l : List Sr} (h : Pr w0 hp xp H L o X v l wr) (ht : Turned wr X o w2 X' o' H') : PrMid w0 hp xp H' L o' X' v l w2 := by
  refine ⟨ht.head, ht.hp.trans h.hp, h.ref.turn ht.fine.apart (fun k hk => h.head.inn.bsub k hk) (fun k hk hk2 => h.sep k hk hk2) ht.more, h.keys, fun k hk hm => ?_, fun k hk => (ht.more.new k hk).elim (h.new k) (fun h2 => Nat.le_trans h.below.size h2), apart_below h.below ht.apart h.new⟩
  rcases ht.fine.more k hm with h1 | h1
  · exact h.sep k hk h1
  · have := h.ref.lt k hk; omega
theorem PrMid.then {w0 wr w2 : World} {hp xp : Nat} {H : Hd} {L : List Ky} {o : HLoc} {X : List Nat} {v : Value} {l : List Sr} (h : PrMid w0 hp xp H L o X v l wr) (hb : Below wr.heap.size wr w2) : PrMid w0 hp xp H L o X v l w2 :=
  ⟨h.head.below hb, h.hp, h.ref.below hb, h.keys, h.sep, h.new, bthen h.below hb⟩
theorem PrMid.turnR {w0 wr w2 : World} {hp xp : Nat} {H : Hd} {L L' : List Ky} {o : HLoc} {X X' : List Nat} {v v' : Value} {l : List Sr} (h : PrMid w0 hp xp H L o X v l wr) (ht : RTurned wr X xp v w2 X' v' L') (ho : OfH H L') : ∃ l', Pr w0 hp xp H L' o X' v' l' w2 := by
  obtain ⟨l', g1, g2⟩ := ht.at_
  refine ⟨l', h.head.step ht.apart h.ref.sub (fun k hk hk2 => h.sep k hk2 hk) ht.more.old (fun k hk hX => ht.more.out hk hX) ht.lt, h.hp, g1, g2, ho, fun k hk hm => ?_, fun k hk => (ht.more.new k hk).elim (h.new k) (fun h2 => Nat.le_trans h.below.size h2), apart_below h.below ht.apart (fun k hk => h.new k (h.ref.sub k hk))⟩
  rcases hk with rfl | hk
  · exact h.sep k (.inl rfl) hm
  · rcases ht.fine with hf | hf
    · exact h.sep k (.inr (hf ▸ hk)) hm
    · have h1 := hf k hk
      have h2 := h.head.inn.ix.lt k (h.head.inn.bsub k hm)
      omega
end Go.Proofs.YtbjglcdoekbloaaGreatDoor

/- the document's head: Ref, At, Count. -/
namespace Go.Proofs.YtbjglcdoekbloaaGreatDoor
open Go.RowKit Go.Proofs.YtbjglcdoekbloaaGreatDoor.MapRaw Go.ChangeMaps

def ixF (o : Option Nat) : Int := match o with | none => -1 | some i => i
structure NoTo {α : Type} (f : α → Bool) (l : List α) (k : Nat) : Prop where
  no : ∀ (j : Nat) (h : j < l.length), j < k → f l[j] = false
theorem NoTo.start {α : Type} (f : α → Bool) (l : List α) : NoTo f l 0 := ⟨fun _ _ h => by omega⟩
theorem NoTo.round {α : Type} {f : α → Bool} {l : List α} {k : Nat} (h : NoTo f l k) (hk : k < l.length) : (f l[k] = true ∧ l.findIdx? f = some k) ∨ (f l[k] = false ∧ NoTo f l (k + 1)) := by
  cases hf : f l[k] with
  | true => exact .inl ⟨rfl, List.findIdx?_eq_some_iff_getElem.2 ⟨hk, hf, fun j hj => by simp [h.no j (by omega) hj]⟩⟩
  | false =>
    refine .inr ⟨rfl, ⟨fun j hj hlt => ?_⟩⟩
    by_cases e : j = k
    · subst e; exact hf
    · exact h.no j hj (by omega)
theorem NoTo.done {α : Type} {f : α → Bool} {l : List α} {k : Nat} (h : NoTo f l k) (hk : ¬ k < l.length) : l.findIdx? f = none :=
  List.findIdx?_eq_none_iff.2 fun x hx => by
    obtain ⟨i, hi, e⟩ := List.getElem_of_mem hx
    rw [← e]; exact h.no i hi (by omega)
/-- labels.Same of the document, of two lists -/
theorem lab_same {D D' : Nat → Prop} {v v' : Value} {l l' : List Lb} (w : World) (h : SlL w D v l) (h' : SlL w D' v' l') : ∀ W, Below w.heap.size w W → Calls Tryz.prog 24 #[v, v'] W fun e w' => e = .returned (.bool (decide (l = l'))) ∧ Below W.heap.size W w' := by
  obtain ⟨A, c, rfl, p1, p2, -, -, p5⟩ := h
  obtain ⟨A', c', rfl, q1, q2, -, -, q5⟩ := h'
  intro W hW
  exact ref05_same A A' c c' l l' W (Rd.below p5 hW) (Rd.below q5 hW) (by omega) (by omega)
def refB (r : Int) (x : Sr) : Bool := decide (x.ref = r)
def labB (l : List Lb) (x : Sr) : Bool := decide (x.lab = l)

set_option maxRecDepth 100000 in
set_option maxHeartbeats 1000000 in
theorem ref14_ref {D D' : Nat → Prop} (xp : Nat) (v : Value) (l : List Sr) (r : Int) (w : World) (hc : w.cell? ⟨xp, 0, none⟩ = some v) (hv : Slc 3 Sr.enc w D v l) (hl : SrOk w D' l) :
    Calls Tryz.prog 84 #[.pointer (some ⟨xp, 0, none⟩), .int .u32 r] w fun e w' => e = .returned (.int .i64 (ixF (l.findIdx? (refB r)))) ∧ Below w.heap.size w w' := by
  obtain ⟨A, c, rfl, p1, p2, p3, p4, p5⟩ := hv
  have HR := Lib.hid p5
  have HL := Lib.hid hl
  have hm : l.length ≤ 9223372036854775807 := by simp only [maxLen] at p2; omega
  obtain ⟨n, hn⟩ : ∃ n, n = l.length := ⟨_, rfl⟩
  have Hn := Lib.hid hn
  rw [← hn] at hm hc
  clear p1 p2 p3 p4 p5 hn hl
  go_enter Tryz.func84, Tryz.ntmps84
  go_wp2
  go_loopw [12] (fun i wr => ∃ k : Nat, k ≤ n ∧ i = .int .i64 k ∧ NoTo (refB r) l k ∧ Below w.heap.size w wr) (fun i _ => n - (intOf i).toNat)
  case atStart => exact ⟨0, Nat.zero_le _, rfl, NoTo.start _ _, Below.refl _ _⟩
  case round =>
    obtain ⟨k, hk, rfl, hE, hB⟩ := hrel
    by_cases hlt : k < n
    · have hkl : k < l.length := by rw [← Hn.out]; exact hlt
      obtain ⟨b, off, rfl, z0, z1, z2⟩ := rdSr_at (Rd.below HR.out hB) hkl
      have hx := HL.out _ (List.getElem_mem hkl)
      have hRd := hE.round hkl
      generalize l[k] = x at *
      obtain ⟨xr, lv, lab, pv, pts⟩ := x
      simp only at z0 z1 z2 hx hRd
      obtain ⟨⟨A2, c2, rfl, -⟩, ⟨A3, c3, rfl, -⟩⟩ := hx
      generalize lab.length = n2 at *
      generalize pts.length = n3 at *
      have HBr := Lib.hid hB
      have HBw : Hid (Below wr.heap.size wr (wr.alloc (.cells #[.int .u32 xr, .slice A2 n2 c2, .slice A3 n3 c3] 66))) := Lib.hid (balloc (Below.refl _ _) _)
      clear hE hB
      rcases hRd with ⟨g1, g2⟩ | ⟨g1, g2⟩
      · have G2 := Lib.hid g2
        have he : (xr == r) = true := by simpa [refB] using g1
        clear g1 g2
        go_wp2
        go_ret
        exact ⟨by rw [G2.out]; rfl, bthen HBr.out HBw.out⟩
      · have G2 := Lib.hid g2
        have he : (xr == r) = false := by simpa [refB] using g1
        clear g1 g2
        go_wp2
        go_roundw
        case rel => exact ⟨k + 1, by omega, by go_num, G2.out, bthen HBr.out HBw.out⟩
        case measure => simp [intOf] <;> omega
    · have hEd := Lib.hid (hE.done (by rw [← Hn.out]; exact hlt))
      have HBr := Lib.hid hB
      clear hE hB
      go_wp2
      go_ret
      exact ⟨by rw [hEd.out]; rfl, HBr.out⟩
set_option maxRecDepth 100000 in
set_option maxHeartbeats 1000000 in
theorem ref14_at {D D' D2 : Nat → Prop} (xp : Nat) (v qv : Value) (l : List Sr) (q : List Lb) (w : World) (hc : w.cell? ⟨xp, 0, none⟩ = some v) (hv : Slc 3 Sr.enc w D v l) (hl : SrOk w D' l) (hq : SlL w D2 qv q) :
    Calls Tryz.prog 43 #[.pointer (some ⟨xp, 0, none⟩), qv] w fun e w' => e = .returned (.int .i64 (ixF (l.findIdx? (labB q)))) ∧ Below w.heap.size w w' := by
  obtain ⟨A, c, rfl, p1, p2, p3, p4, p5⟩ := hv
  have HR := Lib.hid p5
  have HL := Lib.hid hl
  have HQ := Lib.hid hq
  obtain ⟨A9, c9, rfl, -⟩ := hq
  generalize q.length = n9 at *
  have hm : l.length ≤ 9223372036854775807 := by simp only [maxLen] at p2; omega
  obtain ⟨n, hn⟩ : ∃ n, n = l.length := ⟨_, rfl⟩
  have Hn := Lib.hid hn
  rw [← hn] at hm hc
  clear p1 p2 p3 p4 p5 hn hl
  go_enter Tryz.func43, Tryz.ntmps43
  go_wp2
  go_loopw [12] (fun i wr => ∃ k : Nat, k ≤ n ∧ i = .int .i64 k ∧ NoTo (labB q) l k ∧ Below w.heap.size w wr) (fun i _ => n - (intOf i).toNat)
  case atStart => exact ⟨0, Nat.zero_le _, rfl, NoTo.start _ _, Below.refl _ _⟩
  case round =>
    obtain ⟨k, hk, rfl, hE, hB⟩ := hrel
    by_cases hlt : k < n
    · have hkl : k < l.length := by rw [← Hn.out]; exact hlt
      obtain ⟨b, off, rfl, z0, z1, z2⟩ := rdSr_at (Rd.below HR.out hB) hkl
      have hx := HL.out _ (List.getElem_mem hkl)
      have hRd := hE.round hkl
      generalize l[k] = x at *
      obtain ⟨xr, lv, lab, pv, pts⟩ := x
      simp only at z0 z1 z2 hx hRd
      have hsame := lab_same w hx.1 HQ.out
      have HSame := Lib.hid hsame
      obtain ⟨⟨A2, c2, rfl, -⟩, ⟨A3, c3, rfl, -⟩⟩ := hx
      generalize lab.length = n2 at *
      generalize pts.length = n3 at *
      have HBr := Lib.hid hB
      have HBw : Hid (Below wr.heap.size wr (wr.alloc (.cells #[.int .u32 xr, .slice A2 n2 c2, .slice A3 n3 c3] 66))) := Lib.hid (balloc (Below.refl _ _) _)
      clear hE hB hsame
      rcases hRd with ⟨g1, g2⟩ | ⟨g1, g2⟩
      · have G2 := Lib.hid g2
        have he : decide (lab = q) = true := g1
        rw [he] at HSame
        clear g1 g2 he
        go_wp2_with fail
        refine (HSame.out _ (bthen HBr.out HBw.out)).mono ?_
        rintro e w1 ⟨rfl, hb⟩
        have HB1 := Lib.hid (bthen (bthen HBr.out HBw.out) hb)
        clear hb
        go_wp2
        go_ret
        exact ⟨by rw [G2.out]; rfl, HB1.out⟩
      · have G2 := Lib.hid g2
        have he : decide (lab = q) = false := g1
        rw [he] at HSame
        clear g1 g2 he
        go_wp2_with fail
        refine (HSame.out _ (bthen HBr.out HBw.out)).mono ?_
        rintro e w1 ⟨rfl, hb⟩
        have HB1 := Lib.hid (bthen (bthen HBr.out HBw.out) hb)
        clear hb
        go_wp2
        go_roundw
        case rel => exact ⟨k + 1, by omega, by go_num, G2.out, HB1.out⟩
        case measure => simp [intOf] <;> omega
    · have hEd := Lib.hid (hE.done (by rw [← Hn.out]; exact hlt))
      have HBr := Lib.hid hB
      clear hE hB
      go_wp2
      go_ret
      exact ⟨by rw [hEd.out]; rfl, HBr.out⟩

/-! ### Count -/
def sumK (l : List Sr) (k : Nat) : Nat := ((l.take k).map fun x => x.pts.length).sum
theorem sumK_add (l : List Sr) (k : Nat) (hk : k < l.length) : sumK l (k + 1) = sumK l k + l[k].pts.length := by
  unfold sumK
  rw [List.take_succ_eq_append_getElem hk, List.map_append, List.sum_append]
  simp only [List.map_cons, List.map_nil, List.sum_cons, List.sum_nil, Nat.add_zero]
theorem sumK_le (l : List Sr) (h : ∀ x ∈ l, x.pts.length ≤ 65536) : ∀ k, sumK l k ≤ k * 65536 := by
  intro k
  induction k with
  | zero => simp [sumK]
  | succ k ih =>
    by_cases hk : k < l.length
    · rw [sumK_add l k hk]; have := h l[k] (List.getElem_mem hk); omega
    · have : sumK l (k + 1) = sumK l k := by unfold sumK; rw [List.take_of_length_le (by omega), List.take_of_length_le (by omega)]
      omega
set_option maxRecDepth 100000 in
set_option maxHeartbeats 1000000 in
theorem ref14_cnt {D D' : Nat → Prop} (v : Value) (l : List Sr) (w : World) (hv : Slc 3 Sr.enc w D v l) (hl : SrOk w D' l) (hn9 : l.length ≤ 1000000) (h6 : ∀ x ∈ l, x.pts.length ≤ 65536) :
    Calls Tryz.prog 29 #[v] w fun e w' => e = .returned (.tuple #[.int .i64 l.length, .int .i64 (sumK l l.length)]) ∧ Below w.heap.size w w' := by
  obtain ⟨A, c, rfl, p1, p2, p3, p4, p5⟩ := hv
  have HR := Lib.hid p5
  have HL := Lib.hid hl
  have H6 := Lib.hid h6
  have HS := Lib.hid (sumK_le l h6)
  obtain ⟨n, hn⟩ : ∃ n, n = l.length := ⟨_, rfl⟩
  have Hn := Lib.hid hn
  rw [← hn] at hn9 ⊢
  clear p1 p2 p3 p4 p5 hn hl h6
  go_enter Tryz.func29, Tryz.ntmps29
  go_wp2
  go_loopw [4, 9] (fun s i wr => ∃ k : Nat, k ≤ n ∧ i = .int .i64 k ∧ s = .int .i64 (sumK l k) ∧ Below w.heap.size w wr) (fun _ i _ => n - (intOf i).toNat)
  case atStart => exact ⟨0, Nat.zero_le _, rfl, by simp [sumK], Below.refl _ _⟩
  case round =>
    obtain ⟨k, hk, rfl, rfl, hB⟩ := hrel
    by_cases hlt : k < n
    · have hkl : k < l.length := by rw [← Hn.out]; exact hlt
      obtain ⟨b, off, rfl, z0, z1, z2⟩ := rdSr_at (Rd.below HR.out hB) hkl
      have hx := HL.out _ (List.getElem_mem hkl)
      have h65 := H6.out _ (List.getElem_mem hkl)
      have hadd := sumK_add l k hkl
      have hsl := HS.out k
      generalize l[k] = x at *
      obtain ⟨xr, lv, lab, pv, pts⟩ := x
      simp only at z0 z1 z2 hx h65 hadd
      obtain ⟨⟨A2, c2, rfl, -⟩, ⟨A3, c3, rfl, -⟩⟩ := hx
      generalize lab.length = n2 at *
      generalize pts.length = n3 at *
      have HAdd := Lib.hid hadd
      have HBr := Lib.hid hB
      have HBw : Hid (Below wr.heap.size wr (wr.alloc (.cells #[.int .u32 xr, .slice A2 n2 c2, .slice A3 n3 c3] 66))) := Lib.hid (balloc (Below.refl _ _) _)
      have hb9 : ((sumK l k : Int) + (n3 : Int)) < 9223372036854775808 := by omega
      clear hB hadd
      go_wp2
      go_roundw
      case rel => exact ⟨k + 1, by omega, by go_num, by rw [HAdd.out]; go_num, bthen HBr.out HBw.out⟩
      case measure => simp [intOf] <;> omega
    · have hkn : k = n := by omega
      subst hkn
      have HBr := Lib.hid hB
      clear hB
      go_wp2
      go_ret2
      exact ⟨rfl, HBr.out⟩
set_option maxRecDepth 100000 in
set_option maxHeartbeats 1000000 in
theorem ref14_count {D D' : Nat → Prop} (xp : Nat) (v : Value) (l : List Sr) (w : World) (hc : w.cell? ⟨xp, 0, none⟩ = some v) (hv : Slc 3 Sr.enc w D v l) (hl : SrOk w D' l) (hn9 : l.length ≤ 1000000) (h6 : ∀ x ∈ l, x.pts.length ≤ 65536) :
    Calls Tryz.prog 49 #[.pointer (some ⟨xp, 0, none⟩)] w fun e w' => e = .returned (.tuple #[.int .i64 l.length, .int .i64 (sumK l l.length)]) ∧ Below w.heap.size w w' := by
  have hcall := ref14_cnt v l w hv hl hn9 h6
  have HCall := Lib.hid hcall
  clear hcall hv hl h6
  go_enter Tryz.func49, Tryz.ntmps49
  go_wp2_with fail
  refine HCall.out.mono ?_
  rintro e w1 ⟨rfl, hb⟩
  go_wp2
  go_ret2
  exact ⟨rfl, hb⟩
end Go.Proofs.YtbjglcdoekbloaaGreatDoor

/- the document's head: add. -/
namespace Go.Proofs.YtbjglcdoekbloaaGreatDoor
open Go.RowKit Go.Proofs.YtbjglcdoekbloaaGreatDoor.MapRaw Go.ChangeMaps

def ltS (r : Int) (x : Sr) : Bool := decide (x.ref < r)
def gtS (r : Int) (x : Sr) : Bool := decide (r < x.ref)
def addS (l : List Sr) (x : Sr) : List Sr := l.filter (ltS x.ref) ++ x :: l.filter (gtS x.ref)
theorem addS_key (l : List Sr) (x : Sr) : (addS l x).map Sr.key = addL (l.map Sr.key) x.key := by
  unfold addS addL
  rw [List.map_append, List.map_cons, List.filter_map, List.filter_map]
  rfl
theorem filt_take {α : Type} (f : α → Bool) (l : List α) (k : Nat) (hk : k < l.length) : (l.take (k + 1)).filter f = (l.take k).filter f ++ (if f l[k] = true then [l[k]] else []) := by
  rw [List.take_succ_eq_append_getElem hk, List.filter_append]
  congr 1
  simp only [List.filter_cons, List.filter_nil]
theorem filt_le {α : Type} (f : α → Bool) (l : List α) (k : Nat) : ((l.take k).filter f).length ≤ k := Nat.le_trans (List.length_filter_le _ _) (by rw [List.length_take]; omega)
/-- a row of series that the call makes -/
structure RowTo (W0 : World) (v : Value) (l : List Sr) (wr : World) : Prop where
  own : wr.ownsRow W0.heap.size 66 3 v l.length (l.flatMap Sr.enc)
  below : Below W0.heap.size W0 wr
theorem RowTo.then {W0 wr w2 : World} {v : Value} {l : List Sr} (h : RowTo W0 v l wr) (hb : Below wr.heap.size wr w2) : RowTo W0 v l w2 := ⟨own_below h.own hb, bthen h.below hb⟩
theorem RowTo.add {W0 wr w4 w5 : World} {v v5 : Value} {l : List Sr} {x : Sr} (h : RowTo W0 v l wr) (h4 : Below wr.heap.size wr w4) (ho : w5.ownsRow W0.heap.size 66 3 v5 (l.length + 1) (l.flatMap Sr.enc ++ x.enc)) (hB : Below W0.heap.size w4 w5) : RowTo W0 v5 (l ++ [x]) w5 :=
  ⟨by simpa using ho, (bthen h.below h4).trans hB⟩
def AddRPost (w : World) (xp : Nat) (l : List Sr) (x : Sr) (e : Ending) (w' : World) : Prop :=
  e = .returned (.tuple #[]) ∧ ∃ v', w'.heap[xp]? = some (.cells #[v'] 107 (0, 0)) ∧ w'.ownsRow w.heap.size 66 3 v' (addS l x).length ((addS l x).flatMap Sr.enc) ∧ Apart (fun k => k = xp) w w'
theorem add_end {w W0 wr : World} {xp : Nat} {v v' : Value} {l : List Sr} {x : Sr} (hc : w.heap[xp]? = some (.cells #[v] 107 (0, 0))) (h0 : Below w.heap.size w W0) (h : RowTo W0 v' (addS l x) wr) : AddRPost w xp l x (.returned (.tuple #[])) (wr.setCell ⟨xp, 0, none⟩ v') := by
  have hx : xp < w.heap.size := (Array.getElem?_eq_some_iff.1 hc).1
  have hc2 := blk_below hc (bthen h0 h.below)
  refine ⟨rfl, v', ?_, ?_, (below_apart (bthen h0 h.below) (fun k => k = xp)).setC ⟨xp, 0, none⟩ (.inl rfl) _⟩
  · rw [setCell_blk (i := 0) v' hc2]; rfl
  · have hb := fun k hk => ownsRow_blk h.own k hk
    exact own_base (ownsRow_move h.own (fun k hk => Below.heap_setCell _ _ _ _ (by have := (hb k hk).1; have := h0.size; show k ≠ xp; omega))) h0.size
set_option maxRecDepth 100000 in
set_option maxHeartbeats 2000000 in
theorem ref14_add {D D2 D3 : Nat → Prop} (xp : Nat) (v : Value) (l : List Sr) (x : Sr) (w : World) (hc : w.heap[xp]? = some (.cells #[v] 107 (0, 0))) (hv : Slc 3 Sr.enc w D v l) (hl : SrOk w D2 l) (hx : SlL w D3 x.lv x.lab ∧ SlP w D3 x.pv x.pts) (hn9 : l.length ≤ 1000000) :
    Calls Tryz.prog 85 #[.pointer (some ⟨xp, 0, none⟩), .agg #[.int .u32 x.ref, x.lv, x.pv]] w (AddRPost w xp l x) := by
  have hend := fun (W0 wr : World) (v' : Value) => add_end (W0 := W0) (wr := wr) (v' := v') (l := l) (x := x) hc
  have HEnd := Lib.hid hend
  have c0 := blk_cell hc 0
  simp at c0
  have hxl : xp < w.heap.size := (Array.getElem?_eq_some_iff.1 hc).1
  have HX1 : Hid (∀ u ∈ x.enc, u.oneCell' = true) := Lib.hid (sr_one x hx)
  have HC := Lib.hid hc
  obtain ⟨y, hy⟩ : ∃ y, y = x := ⟨_, rfl⟩
  obtain ⟨r, lv, lab, pv, pts⟩ := x
  simp only at hx ⊢
  obtain ⟨⟨A2, c2, rfl, -⟩, ⟨A3, c3, rfl, -⟩⟩ := hx
  have hye : y.enc = [.int .u32 r, .slice A2 lab.length c2, .slice A3 pts.length c3] := by rw [hy]; rfl
  have hyr : y.ref = r := by rw [hy]
  rw [← hy] at HEnd HX1 ⊢
  have HYe := Lib.hid hye
  have HYr := Lib.hid hyr
  clear hy hye hyr hend
  generalize lab.length = n2 at *
  generalize pts.length = n3 at *
  obtain ⟨A, c, rfl, p1, p2, p3, p4, p5⟩ := hv
  have HR := Lib.hid p5
  have HL := Lib.hid hl
  obtain ⟨n, hn⟩ : ∃ n, n = l.length := ⟨_, rfl⟩
  have Hn := Lib.hid hn
  rw [← hn] at hn9 c0
  clear p1 p2 p3 p4 p5 hn hl hc
  have HB0 : Hid (Below w.heap.size w (w.alloc (.cells #[.int .u32 r, .slice A2 n2 c2, .slice A3 n3 c3] 66))) := Lib.hid (balloc (Below.refl _ _) _)
  have x0 : (w.alloc (.cells #[.int .u32 r, .slice A2 n2 c2, .slice A3 n3 c3] 66)).cell? ⟨w.heap.size, 0, none⟩ = some (.int .u32 r) := by simp
  have x1 : (w.alloc (.cells #[.int .u32 r, .slice A2 n2 c2, .slice A3 n3 c3] 66)).cell? ⟨w.heap.size, 1, none⟩ = some (.slice A2 n2 c2) := by simp
  have x2 : (w.alloc (.cells #[.int .u32 r, .slice A2 n2 c2, .slice A3 n3 c3] 66)).cell? ⟨w.heap.size, 2, none⟩ = some (.slice A3 n3 c3) := by simp
  have X0 := Lib.hid x0
  have X1 := Lib.hid x1
  have X2 := Lib.hid x2
  have C0 := Lib.hid (later HB0.out c0)
  have HLit : Hid (RowTo (w.alloc (.cells #[.int .u32 r, .slice A2 n2 c2, .slice A3 n3 c3] 66)) (.slice (some ⟨w.heap.size + 1, 0, none⟩) 0 0) [] ((w.alloc (.cells #[.int .u32 r, .slice A2 n2 c2, .slice A3 n3 c3] 66)).alloc (.cells #[] 66))) := Lib.hid ⟨by
    have := World.ownsRow_lit (w.alloc (.cells #[.int .u32 r, .slice A2 n2 c2, .slice A3 n3 c3] 66)) (e := 66) (size := 3) #[] 0 (Nat.le_refl _) (by decide) rfl
    simpa using this, balloc (Below.refl _ _) _⟩
  clear x0 x1 x2
  go_enter Tryz.func85, Tryz.ntmps85
  go_wp2_with fail
  generalize w.alloc (.cells #[.int .u32 r, .slice A2 n2 c2, .slice A3 n3 c3] 66) = W0 at *
  go_loopw [4, 15] (fun ov i wr => ∃ k : Nat, k ≤ n ∧ i = .int .i64 k ∧ RowTo W0 ov ((l.take k).filter (ltS r)) wr) (fun _ i _ => n - (intOf i).toNat)
  case atStart => exact ⟨0, Nat.zero_le _, rfl, HLit.out⟩
  case round =>
    obtain ⟨k, hk, rfl, hE⟩ := hrel
    have HE := Lib.hid hE
    have cr := later hE.below C0.out
    have xr0 := later hE.below X0.out
    have hfl := filt_le (ltS r) l k
    have HB := Lib.hid (bthen HB0.out hE.below)
    obtain ⟨Ao, co, rfl⟩ := own_slice hE.own
    by_cases hlt : k < n
    · have hkl : k < l.length := by rw [← Hn.out]; exact hlt
      obtain ⟨b, off, rfl, z0, z1, z2⟩ := rdSr_at (Rd.below HR.out HB.out) hkl
      have hx := HL.out _ (List.getElem_mem hkl)
      have hft := filt_take (ltS r) l k hkl
      have HX5 : Hid (∀ u ∈ l[k].enc, u.oneCell' = true) := Lib.hid (sr_one _ hx)
      have hdec : ltS r l[k] = decide (l[k].ref < r) := rfl
      have hze : l[k].enc = [.int .u32 l[k].ref, l[k].lv, l[k].pv] := rfl
      generalize l[k] = z at *
      obtain ⟨zr, zlv, zlab, zpv, zpts⟩ := z
      simp only at z0 z1 z2 hx hdec hze
      obtain ⟨⟨A4, c4, rfl, -⟩, ⟨A5, c5, rfl, -⟩⟩ := hx
      generalize zlab.length = n4 at *
      generalize zpts.length = n5 at *
      have HFt := Lib.hid hft
      have HZe := Lib.hid hze
      have HBw : Hid (Below wr.heap.size wr (wr.alloc (.cells #[.int .u32 zr, .slice A4 n4 c4, .slice A5 n5 c5] 66))) := Lib.hid (balloc (Below.refl _ _) _)
      have xr1 := later HBw.out xr0
      by_cases hrr : zr < r
      · have hd : decide (zr < r) = true := decide_eq_true hrr
        rw [hd] at hdec
        rw [hdec, if_pos rfl] at hft
        have HFt := Lib.hid hft
        clear hft hze hdec hE hd
        generalize hfr : (l.take k).filter (ltS r) = fr at *
        have HEw := Lib.hid (HE.out.then HBw.out)
        have HEa := Lib.hid (HEw.out.then (balloc (Below.refl _ _) (.cells #[.int .u32 zr, .slice A4 n4 c4, .slice A5 n5 c5] 66)))
        have hfn := hfl
        clear hfr
        go_wp2_with (at_builtin; refine wpList_app (w0 := (wr.alloc (.cells #[.int .u32 zr, .slice A4 n4 c4, .slice A5 n5 c5] 66)).alloc (.cells #[.int .u32 zr, .slice A4 n4 c4, .slice A5 n5 c5] 66)) W0.heap.size rfl _ _ 22 66 _ 3 56 1 [.int .u32 zr, .slice A4 n4 c4, .slice A5 n5 c5] rfl Tryz.underlying22 info_ser rfl (by decide) (by decide) (.slice Ao fr.length co) fr.length (fr.flatMap Sr.enc) ?hs ?hx HEa.out.own (Below.refl _ _) HEa.out.below.size (by omega) ?_)
        case hs => rfl
        case hx => exact src_block (m := 1) (size := 3) (cs := #[.int .u32 zr, .slice A4 n4 c4, .slice A5 n5 c5]) (heap_alloc2_new wr _ _) rfl (fun u hu => HX5.out u (by rw [HZe.out]; exact hu)) 1
        intro v5 w5 hO5 hB5 hg5 hat5
        have HT : Hid (RowTo W0 v5 (fr ++ [⟨zr, .slice A4 n4 c4, zlab, .slice A5 n5 c5, zpts⟩]) w5) := Lib.hid (HEa.out.add (Below.refl _ _) (by rw [HZe.out]; exact hO5) hB5)
        clear hO5 hB5 hg5 hat5
        go_wp2_with fail
        go_roundw
        case rel => exact ⟨k + 1, by omega, by go_num, by rw [HFt.out]; exact HT.out⟩
        case measure => simp [intOf] <;> omega
      · have hd : decide (zr < r) = false := decide_eq_false hrr
        rw [hd] at hdec
        rw [hdec, if_neg (by decide), List.append_nil] at hft
        have HFt := Lib.hid hft
        have HT := Lib.hid (HE.out.then HBw.out)
        clear hft hze hdec hE hrr
        generalize ((l.take k).filter (ltS r)).length = fl at *
        go_wp2_with fail
        go_roundw
        case rel => exact ⟨k + 1, by omega, by go_num, by rw [HFt.out]; exact HT.out⟩
        case measure => simp [intOf] <;> omega
    · have hkk : l.take k = l := List.take_of_length_le (by rw [← Hn.out]; omega)
      rw [hkk] at HE hfl ⊢
      have xr1 := later hE.below X1.out
      have xr2 := later hE.below X2.out
      have hE2 : RowTo W0 (.slice Ao (l.filter (ltS r)).length co) (l.filter (ltS r)) wr := HE.out
      clear hkk hE HE xr0
      have xr0 := later hE2.below X0.out
      generalize hfr : l.filter (ltS r) = fr at *
      have HEa := Lib.hid (hE2.then (balloc (Below.refl _ _) (.cells #[.int .u32 r, .slice A2 n2 c2, .slice A3 n3 c3] 66)))
      have HFr := Lib.hid hfr
      clear hE2 hfr
      go_wp2_with (at_builtin; refine wpList_app (w0 := wr.alloc (.cells #[.int .u32 r, .slice A2 n2 c2, .slice A3 n3 c3] 66)) W0.heap.size rfl _ _ 22 66 _ 3 56 1 [.int .u32 r, .slice A2 n2 c2, .slice A3 n3 c3] rfl Tryz.underlying22 info_ser rfl (by decide) (by decide) (.slice Ao fr.length co) fr.length (fr.flatMap Sr.enc) ?hs2 ?hx2 HEa.out.own (Below.refl _ _) HEa.out.below.size (by omega) ?_)
      case hs2 => rfl
      case hx2 => exact src_block (m := 1) (size := 3) (cs := #[.int .u32 r, .slice A2 n2 c2, .slice A3 n3 c3]) (blk_new _ _) rfl (fun u hu => HX1.out u (by rw [HYe.out]; exact hu)) 1
      intro v5 w5 hO5 hB5 hg5 hat5
      have hT : RowTo W0 v5 (fr ++ [y]) w5 := HEa.out.add (Below.refl _ _) (by rw [HYe.out]; exact hO5) hB5
      clear hO5 hB5 hg5 hat5 HEa xr0 xr1 xr2 cr HB
      have hgl : (fr ++ [y]).length ≤ n + 1 := by rw [List.length_append]; simp; omega
      generalize hg5 : fr ++ [y] = g5 at *
      have HG5 := Lib.hid hg5
      have HT := Lib.hid hT
      obtain ⟨A6, c6, rfl⟩ := own_slice hT.own
      have cs := later hT.below C0.out
      clear hg5 hT hfl
      go_wp2_with fail
      go_loopw [4, 38] (fun ov i wr => ∃ k : Nat, k ≤ n ∧ i = .int .i64 k ∧ RowTo W0 ov (g5 ++ (l.take k).filter (gtS r)) wr) (fun _ i _ => n - (intOf i).toNat)
      case atStart => exact ⟨0, Nat.zero_le _, rfl, by simpa using HT.out⟩
      case round =>
        obtain ⟨k, hk, rfl, hE⟩ := hrel
        have HE := Lib.hid hE
        have cr := later hE.below C0.out
        have xr0 := later hE.below X0.out
        have hfl := filt_le (gtS r) l k
        have HB := Lib.hid (bthen HB0.out hE.below)
        obtain ⟨Ao, co, rfl⟩ := own_slice hE.own
        by_cases hlt : k < n
        · have hkl : k < l.length := by rw [← Hn.out]; exact hlt
          obtain ⟨b, off, rfl, z0, z1, z2⟩ := rdSr_at (Rd.below HR.out HB.out) hkl
          have hx := HL.out _ (List.getElem_mem hkl)
          have hft := filt_take (gtS r) l k hkl
          have HX5 : Hid (∀ u ∈ l[k].enc, u.oneCell' = true) := Lib.hid (sr_one _ hx)
          have hdec : gtS r l[k] = decide (r < l[k].ref) := rfl
          have hze : l[k].enc = [.int .u32 l[k].ref, l[k].lv, l[k].pv] := rfl
          generalize l[k] = z at *
          obtain ⟨zr, zlv, zlab, zpv, zpts⟩ := z
          simp only at z0 z1 z2 hx hdec hze
          obtain ⟨⟨A4, c4, rfl, -⟩, ⟨A5, c5, rfl, -⟩⟩ := hx
          generalize zlab.length = n4 at *
          generalize zpts.length = n5 at *
          have HZe := Lib.hid hze
          have HBw : Hid (Below wr.heap.size wr (wr.alloc (.cells #[.int .u32 zr, .slice A4 n4 c4, .slice A5 n5 c5] 66))) := Lib.hid (balloc (Below.refl _ _) _)
          have xr1 := later HBw.out xr0
          by_cases hrr : r < zr
          · have hd : decide (r < zr) = true := decide_eq_true hrr
            rw [hd] at hdec
            rw [hdec, if_pos rfl] at hft
            have hft2 : g5 ++ (l.take (k + 1)).filter (gtS r) = (g5 ++ (l.take k).filter (gtS r)) ++ [⟨zr, .slice A4 n4 c4, zlab, .slice A5 n5 c5, zpts⟩] := by rw [hft, List.append_assoc]
            have HFt := Lib.hid hft2
            have hfn : (g5 ++ (l.take k).filter (gtS r)).length ≤ 2 * n + 1 := by rw [List.length_append]; omega
            clear hft hft2 hze hdec hE hd hfl
            generalize hfr : g5 ++ (l.take k).filter (gtS r) = fs at *
            have HEw := Lib.hid (HE.out.then HBw.out)
            have HEa := Lib.hid (HEw.out.then (balloc (Below.refl _ _) (.cells #[.int .u32 zr, .slice A4 n4 c4, .slice A5 n5 c5] 66)))
            clear hfr
            go_wp2_with (at_builtin; refine wpList_app (w0 := (wr.alloc (.cells #[.int .u32 zr, .slice A4 n4 c4, .slice A5 n5 c5] 66)).alloc (.cells #[.int .u32 zr, .slice A4 n4 c4, .slice A5 n5 c5] 66)) W0.heap.size rfl _ _ 22 66 _ 3 56 1 [.int .u32 zr, .slice A4 n4 c4, .slice A5 n5 c5] rfl Tryz.underlying22 info_ser rfl (by decide) (by decide) (.slice Ao fs.length co) fs.length (fs.flatMap Sr.enc) ?hs3 ?hx3 HEa.out.own (Below.refl _ _) HEa.out.below.size (by omega) ?_)
            case hs3 => rfl
            case hx3 => exact src_block (m := 1) (size := 3) (cs := #[.int .u32 zr, .slice A4 n4 c4, .slice A5 n5 c5]) (heap_alloc2_new wr _ _) rfl (fun u hu => HX5.out u (by rw [HZe.out]; exact hu)) 1
            intro v5 w5 hO5 hB5 hg5 hat5
            have HT : Hid (RowTo W0 v5 (fs ++ [⟨zr, .slice A4 n4 c4, zlab, .slice A5 n5 c5, zpts⟩]) w5) := Lib.hid (HEa.out.add (Below.refl _ _) (by rw [HZe.out]; exact hO5) hB5)
            clear hO5 hB5 hg5 hat5
            go_wp2_with fail
            go_roundw
            case rel => exact ⟨k + 1, by omega, by go_num, by rw [HFt.out]; exact HT.out⟩
            case measure => simp [intOf] <;> omega
          · have hd : decide (r < zr) = false := decide_eq_false hrr
            rw [hd] at hdec
            rw [hdec, if_neg (by decide), List.append_nil] at hft
            have HFt := Lib.hid hft
            have HT := Lib.hid (HE.out.then HBw.out)
            clear hft hze hdec hE hrr hfl
            generalize (g5 ++ (l.take k).filter (gtS r)).length = fl at *
            go_wp2_with fail
            go_roundw
            case rel => exact ⟨k + 1, by omega, by go_num, by rw [HFt.out]; exact HT.out⟩
            case measure => simp [intOf] <;> omega
        · have hkk : l.take k = l := List.take_of_length_le (by rw [← Hn.out]; omega)
          have hfin : g5 ++ (l.take k).filter (gtS r) = addS l y := by
            rw [hkk, ← HG5.out, ← HFr.out]
            unfold addS
            rw [HYr.out, List.append_assoc]; rfl
          rw [hfin] at hE ⊢
          have HFin := Lib.hid hE
          have f0 : wr.frozen? ⟨xp, 0, none⟩ = false := free_blk (i := 0) (blk_below HC.out HB.out)
          clear hkk hfin hE HE hfl
          generalize (addS l y).length = fl at *
          go_wp2_with fail
          go_end0
          exact HEnd.out W0 wr _ HB0.out HFin.out
end Go.Proofs.YtbjglcdoekbloaaGreatDoor
