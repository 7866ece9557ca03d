import Derived.Test.YtbjglcdoekbloaaGreatDoorGPtsA
import Derived.Test.YtbjglcdoekbloaaGreatDoorGPlB
set_option linter.unusedSimpArgs false
set_option linter.unusedVariables false
set_option linter.unusedSectionVars false
/- plain law: what putF does to the points of a rising list. -/
namespace Go.Proofs.YtbjglcdoekbloaaGreatDoor

/-- the point of a time -/
def atP (l : List Pt) (t : Int) : Option Pt := l.find? fun p => decide (p.T = t)
def bestP (p : Pt) : Option Pt → Pt
  | none => p
  | some q => if aheadB p q = true then p else q
def insP (l : List Pt) (p : Pt) : List Pt := l.take (lowP l p.T) ++ p :: l.drop (lowP l p.T)

theorem atP_cons (p : Pt) (r : List Pt) (t : Int) : atP (p :: r) t = if p.T = t then some p else atP r t := by
  unfold atP; rw [List.find?_cons]; by_cases h : p.T = t <;> simp [h]
theorem hasP_cons (p : Pt) (r : List Pt) (t : Int) : hasP (p :: r) t = if p.T < t then hasP r t else decide (p.T = t) := by
  unfold hasP; rw [lowP_cons]; by_cases h : p.T < t <;> simp [h]
theorem atP_none {l : List Pt} {t : Int} (h : ∀ p ∈ l, p.T ≠ t) : atP l t = none := by
  unfold atP; rw [List.find?_eq_none]; intro p hp; simpa using h p hp
theorem atP_mem {l : List Pt} {t : Int} {q : Pt} (h : atP l t = some q) : q ∈ l ∧ q.T = t := by
  unfold atP at h; exact ⟨List.mem_of_find?_eq_some h, by simpa using List.find?_some h⟩
theorem rising_cons {p : Pt} {r : List Pt} : Rising (p :: r) ↔ (∀ q ∈ r, p.T < q.T) ∧ Rising r := List.pairwise_cons
theorem at_low : ∀ {l : List Pt} (_ : Rising l) (t : Int), (hasP l t = true → ∃ q, l[lowP l t]? = some q ∧ q.T = t ∧ atP l t = some q) ∧ (hasP l t = false → atP l t = none)
  | [], _, t => ⟨fun h => by simp [hasP] at h, fun _ => rfl⟩
  | p :: r, hr, t => by
    obtain ⟨h1, h2⟩ := rising_cons.1 hr
    have ih := at_low h2 t
    rw [hasP_cons, lowP_cons, atP_cons]
    by_cases h : p.T < t
    · have h' : p.T ≠ t := by omega
      rw [if_pos h, if_pos h, if_neg h']
      simpa using ih
    · rw [if_neg h, if_neg h]
      refine ⟨fun e => ⟨p, rfl, by simpa using e, by rw [if_pos (by simpa using e)]⟩, fun e => ?_⟩
      have h' : p.T ≠ t := by simpa using e
      rw [if_neg h']
      exact atP_none fun q hq => by have := h1 q hq; omega
theorem has_at {l : List Pt} (hr : Rising l) (t : Int) : hasP l t = (atP l t).isSome := by
  cases h : hasP l t with
  | true => obtain ⟨q, _, _, hq⟩ := (at_low hr t).1 h; rw [hq]; rfl
  | false => rw [(at_low hr t).2 h]; rfl
theorem insP_cons (x : Pt) (r : List Pt) (p : Pt) : insP (x :: r) p = if x.T < p.T then x :: insP r p else p :: x :: r := by
  unfold insP; rw [lowP_cons]; by_cases h : x.T < p.T <;> simp [h]
theorem insP_mem {p : Pt} : ∀ {l : List Pt} {q : Pt}, q ∈ insP l p → q = p ∨ q ∈ l
  | [], q, h => by simp [insP] at h; exact .inl h
  | x :: r, q, h => by
    rw [insP_cons] at h
    split at h
    · rcases List.mem_cons.1 h with h | h
      · exact .inr (by simp [h])
      · exact (insP_mem h).imp id (fun h => List.mem_cons_of_mem _ h)
    · rcases List.mem_cons.1 h with h | h
      · exact .inl h
      · exact .inr h
theorem ins_spec {p : Pt} : ∀ {l : List Pt}, Rising l → hasP l p.T = false → Rising (insP l p) ∧ ∀ t, atP (insP l p) t = if t = p.T then some p else atP l t
  | [], _, _ => ⟨by simp [insP, Rising], fun t => by
      show atP [p] t = _
      rw [atP_cons]; by_cases h : p.T = t
      · simp [h]
      · simp [h, Ne.symm h]⟩
  | x :: r, hr, hh => by
    obtain ⟨h1, h2⟩ := rising_cons.1 hr
    rw [hasP_cons] at hh
    rw [insP_cons]
    by_cases h : x.T < p.T
    · rw [if_pos h] at hh ⊢
      obtain ⟨i1, i2⟩ := ins_spec h2 hh
      refine ⟨rising_cons.2 ⟨fun q hq => ?_, i1⟩, fun t => ?_⟩
      · rcases insP_mem hq with rfl | hq
        · exact h
        · exact h1 q hq
      · rw [atP_cons, atP_cons, i2]
        by_cases e : x.T = t
        · have : t ≠ p.T := by omega
          simp [e, this]
        · simp [e]
    · rw [if_neg h] at hh ⊢
      have hne : x.T ≠ p.T := by simpa using hh
      refine ⟨rising_cons.2 ⟨fun q hq => ?_, hr⟩, fun t => ?_⟩
      · rcases List.mem_cons.1 hq with rfl | hq
        · omega
        · have := h1 q hq; omega
      · rw [atP_cons]
        by_cases e : p.T = t
        · simp [e]
        · simp [e, Ne.symm e]
theorem set_spec {p : Pt} : ∀ {l : List Pt}, Rising l → hasP l p.T = true → (l.set (lowP l p.T) p).map Pt.T = l.map Pt.T ∧ ∀ t, atP (l.set (lowP l p.T) p) t = if t = p.T then some p else atP l t
  | [], _, h => by simp [hasP] at h
  | x :: r, hr, hh => by
    obtain ⟨h1, h2⟩ := rising_cons.1 hr
    rw [hasP_cons] at hh
    rw [lowP_cons]
    by_cases h : x.T < p.T
    · rw [if_pos h] at hh ⊢
      obtain ⟨i1, i2⟩ := set_spec h2 hh
      refine ⟨by simp [i1], fun t => ?_⟩
      rw [List.set_cons_succ, atP_cons, atP_cons, i2]
      by_cases e : x.T = t
      · have : t ≠ p.T := by omega
        simp [e, this]
      · simp [e]
    · rw [if_neg h] at hh ⊢
      have he : x.T = p.T := by simpa using hh
      refine ⟨by simp [he], fun t => ?_⟩
      rw [List.set_cons_zero, atP_cons, atP_cons, he]
      by_cases e : p.T = t
      · simp [e]
      · simp [e, Ne.symm e]
theorem rising_map {l r : List Pt} (h : r.map Pt.T = l.map Pt.T) (hl : Rising l) : Rising r := by
  unfold Rising at *
  have : ((l.map Pt.T).Pairwise (· < ·)) := List.pairwise_map.2 hl
  rw [← h] at this
  exact List.pairwise_map.1 this
theorem rfrom_iff : ∀ (l : List Pt) (pv : Option Int), rfromP pv l = true ↔ (∀ x ∈ l, x.S ≠ 0 ∧ ∀ u, pv = some u → u < x.T) ∧ Rising l
  | [], pv => by simp [rfromP, Rising]
  | x :: r, pv => by
    rw [rfromP, Bool.and_eq_true, Bool.and_eq_true, rfrom_iff r, rising_cons]
    have hna : (!notAfter pv x.T) = true ↔ ∀ u, pv = some u → u < x.T := by
      cases pv with
      | none => simp [notAfter]
      | some u => simp [notAfter]
    rw [hna]
    constructor
    · rintro ⟨⟨h1, h2⟩, h3, h4⟩
      refine ⟨fun y hy => ?_, fun y hy => (h3 y hy).2 _ rfl, h4⟩
      rcases List.mem_cons.1 hy with rfl | hy
      · exact ⟨by simpa using h1, h2⟩
      · exact ⟨(h3 y hy).1, fun u hu => Int.lt_trans (h2 u hu) ((h3 y hy).2 _ rfl)⟩
    · rintro ⟨h1, h2, h3⟩
      refine ⟨⟨by simpa using (h1 x (by simp)).1, (h1 x (by simp)).2⟩, fun y hy => ⟨(h1 y (List.mem_cons_of_mem _ hy)).1, fun u hu => by cases hu; exact h2 y hy⟩, h3⟩
theorem rightP_iff (l : List Pt) : rightP l = true ↔ ((∀ x ∈ l, x.S ≠ 0) ∧ Rising l) ∧ l.length ≤ 65536 := by
  unfold rightP
  rw [Bool.and_eq_true, rfrom_iff, decide_eq_true_eq]
  constructor
  · rintro ⟨⟨h1, h2⟩, h3⟩; exact ⟨⟨fun x hx => (h1 x hx).1, h2⟩, h3⟩
  · rintro ⟨⟨h1, h2⟩, h3⟩; exact ⟨⟨fun x hx => ⟨h1 x hx, fun u hu => by cases hu⟩, h2⟩, h3⟩
theorem aheadB_self (p : Pt) : aheadB p p = false := by simp [aheadB]
/-- WHAT A PUT IS GOOD FOR -/
structure PutOk (l : List Pt) (p : Pt) (r : List Pt) : Prop where
  right : rightP r = true
  at_ : ∀ t, atP r t = if t = p.T then some (bestP p (atP l p.T)) else atP l t
  ne : r ≠ []
  len : l.length ≤ r.length ∧ r.length ≤ l.length + 1
theorem put_ok {l : List Pt} {p : Pt} (hl : rightP l = true) (hp : p.S ≠ 0) (hn : l.length < 65536) : (putF l p).2.2 = 0 ∧ PutOk l p (putF l p).1 := by
  obtain ⟨⟨hs, hr⟩, hlen⟩ := (rightP_iff l).1 hl
  unfold putF
  rw [if_neg (by simp [hp, hl])]
  cases hh : hasP l p.T with
  | false =>
    rw [if_pos rfl, if_neg (by omega)]
    obtain ⟨i1, i2⟩ := ins_spec hr hh
    refine ⟨rfl, ⟨(rightP_iff _).2 ⟨⟨fun x hx => ?_, i1⟩, ?_⟩, fun t => ?_, by simp, ?_⟩⟩
    · rcases insP_mem hx with rfl | hx
      · exact hp
      · exact hs x hx
    · simp only [List.length_append, List.length_take, List.length_cons, List.length_drop]; omega
    · rw [(at_low hr _).2 hh]; exact i2 t
    · simp only [List.length_append, List.length_take, List.length_cons, List.length_drop]
      have := lowP_le l p.T
      omega
  | true =>
    rw [if_neg (by decide)]
    obtain ⟨q, hq, hqT, hqa⟩ := (at_low hr _).1 hh
    rw [hq]
    simp only [Option.getD_some]
    have hlne : l ≠ [] := by intro e; subst e; simp [hasP] at hh
    by_cases hc : p = q ∨ aheadB p q = false
    · rw [if_pos hc]
      refine ⟨rfl, ⟨hl, fun t => ?_, hlne, by simp⟩⟩
      have hb : bestP p (some q) = q := by
        unfold bestP
        rcases hc with rfl | hc
        · simp [aheadB_self]
        · simp [hc]
      rw [hqa, hb]
      by_cases e : t = p.T
      · subst e; simp [hqa]
      · simp [e]
    · rw [if_neg hc]
      obtain ⟨i1, i2⟩ := set_spec hr hh
      have ha : aheadB p q = true := by
        cases h : aheadB p q with
        | true => rfl
        | false => exact (hc (.inr h)).elim
      refine ⟨rfl, ⟨(rightP_iff _).2 ⟨⟨fun x hx => ?_, rising_map i1 hr⟩, by simpa using hlen⟩, fun t => ?_, by simpa using hlne, by simp⟩⟩
      · rcases List.mem_or_eq_of_mem_set hx with hx | rfl
        · exact hs x hx
        · exact hp
      · rw [hqa, i2 t]; simp [bestP, ha]
/-- whatever was put without a fault is there -/
theorem put_has {l : List Pt} {p : Pt} (h : (putF l p).2.2 = 0) : PutOk l p (putF l p).1 := by
  by_cases h1 : p.S = 0 ∨ rightP l = false
  · unfold putF at h; rw [if_pos h1] at h; cases h
  · have hp : p.S ≠ 0 := fun e => h1 (.inl e)
    have hl : rightP l = true := by cases e : rightP l with | true => rfl | false => exact (h1 (.inr e)).elim
    by_cases hn : l.length < 65536
    · exact (put_ok hl hp hn).2
    · have hlen := ((rightP_iff l).1 hl).2
      unfold putF at h ⊢
      rw [if_neg h1] at h ⊢
      cases hh : hasP l p.T with
      | false => rw [hh, if_pos rfl, if_pos (by omega)] at h; cases h
      | true =>
        obtain ⟨⟨hs, hr⟩, _⟩ := (rightP_iff l).1 hl
        rw [if_neg (by decide)]
        obtain ⟨q, hq, hqT, hqa⟩ := (at_low hr _).1 hh
        rw [hq]
        simp only [Option.getD_some]
        have hlne : l ≠ [] := by intro e; subst e; simp [hasP] at hh
        by_cases hc : p = q ∨ aheadB p q = false
        · rw [if_pos hc]
          refine ⟨hl, fun t => ?_, hlne, by simp⟩
          have hb : bestP p (some q) = q := by
            unfold bestP
            rcases hc with rfl | hc
            · simp [aheadB_self]
            · simp [hc]
          rw [hqa, hb]
          by_cases e : t = p.T
          · subst e; simp [hqa]
          · simp [e]
        · rw [if_neg hc]
          obtain ⟨i1, i2⟩ := set_spec hr hh
          have ha : aheadB p q = true := by
            cases h : aheadB p q with
            | true => rfl
            | false => exact (hc (.inr h)).elim
          refine ⟨(rightP_iff _).2 ⟨⟨fun x hx => ?_, rising_map i1 hr⟩, by simpa using hlen⟩, fun t => ?_, by simpa using hlne, by simp⟩
          · rcases List.mem_or_eq_of_mem_set hx with hx | rfl
            · exact hs x hx
            · exact hp
          · rw [hqa, i2 t]; simp [bestP, ha]
end Go.Proofs.YtbjglcdoekbloaaGreatDoor

/- what head.Plan comes to (plain); its loop over the posts. -/
namespace Go.Proofs.YtbjglcdoekbloaaGreatDoor
open Go.RowKit Go.Proofs.YtbjglcdoekbloaaGreatDoor.MapRaw Go.ChangeMaps

/-- a mark -/
structure Mk where
  at_ : Int
  ok : Bool
def Mk.enc (x : Mk) : List Value := [.int .i64 x.at_, .bool x.ok]
/-- what a series will have, as planned so far -/
def nowF (H : Hd) (will : List (Int × List Pt)) (ref : Int) : List Pt := (mget will ref).getD ((mget H.pts ref).getD [])
structure Wl where
  will : List (Int × List Pt)
  ents : List En
def ptOf (seq : Int) (x : Po) : Pt := ⟨x.T, x.V, seq⟩
def wlNext (H : Hd) (seq : Int) (s : Wl) (p : Po × Int) : Wl :=
  ⟨mput s.will p.2 (putF (nowF H s.will p.2) (ptOf seq p.1)).1,
    if (putF (nowF H s.will p.2) (ptOf seq p.1)).1 = nowF H s.will p.2 then s.ents else s.ents ++ [⟨IntKind.u32.wrap p.2, ptOf seq p.1⟩]⟩
def wlAll (H : Hd) (seq : Int) : List (Po × Int) → Wl → Int × Wl
  | [], s => (0, s)
  | p :: r, s => if (putF (nowF H s.will p.2) (ptOf seq p.1)).2.2 ≠ 0 then ((putF (nowF H s.will p.2) (ptOf seq p.1)).2.2, s) else wlAll H seq r (wlNext H seq s p)
def markOf (will : List (Int × List Pt)) (p : Po × Int) : Mk :=
  ⟨p.1.at_, match atP ((mget will p.2).getD []) p.1.T with | some q => decide (q.V = p.1.V) | none => false⟩
/-- the first thing that is wrong with labels -/
def labsErr : List Po → Int
  | [] => 0
  | x :: r => if rightF x.lab ≠ 0 then rightF x.lab else labsErr r
def plOf (s : Lk) : Pl := ⟨s.of, s.born.map fun r => (r.ref, r.lab), s.top⟩
def recsOf (born : List Rec) (ents : List En) : List Rec := if ents = [] then born else born ++ [⟨2, 0, [], ents⟩]
def planF (H : Hd) (seq : Int) (l : List Po) : List Rec × List Mk × Int :=
  if 16 < l.length then ([], [], 3)
  else if seq = 0 then ([], [], 1)
  else if labsErr l ≠ 0 then ([], [], labsErr l)
  else if fullF H (plOf (lookAll H.ix H.top (l.map Po.lab))) = true then ([], [], 5)
  else if (wlAll H seq (l.zip (lookAll H.ix H.top (l.map Po.lab)).of) ⟨[], []⟩).1 ≠ 0 then ([], [], (wlAll H seq (l.zip (lookAll H.ix H.top (l.map Po.lab)).of) ⟨[], []⟩).1)
  else (recsOf (lookAll H.ix H.top (l.map Po.lab)).born (wlAll H seq (l.zip (lookAll H.ix H.top (l.map Po.lab)).of) ⟨[], []⟩).2.ents,
    (l.zip (lookAll H.ix H.top (l.map Po.lab)).of).map (markOf (wlAll H seq (l.zip (lookAll H.ix H.top (l.map Po.lab)).of) ⟨[], []⟩).2.will), 0)

/-! ### the loop over the labels -/
structure LabsTo (l : List Po) (k : Nat) : Prop where
  eq : labsErr l = labsErr (l.drop k)
  ok : ∀ x ∈ l.take k, rightF x.lab = 0
theorem LabsTo.start (l : List Po) : LabsTo l 0 := ⟨rfl, by simp⟩
theorem LabsTo.round {l : List Po} {k : Nat} (h : LabsTo l k) (hk : k < l.length) : (rightF l[k].lab ≠ 0 ∧ labsErr l = rightF l[k].lab) ∨ (rightF l[k].lab = 0 ∧ LabsTo l (k + 1)) := by
  have e := h.eq
  rw [List.drop_eq_getElem_cons hk, labsErr] at e
  by_cases hr : rightF l[k].lab = 0
  · rw [if_neg (by simp [hr])] at e
    refine .inr ⟨hr, e, fun x hx => ?_⟩
    rw [List.take_succ_eq_append_getElem hk] at hx
    rcases List.mem_append.1 hx with hx | hx
    · exact h.ok x hx
    · simp at hx; rw [hx]; exact hr
  · rw [if_pos hr] at e; exact .inl ⟨hr, e⟩
theorem LabsTo.done {l : List Po} {k : Nat} (h : LabsTo l k) (hk : ¬ k < l.length) : labsErr l = 0 ∧ ∀ x ∈ l, rightF x.lab = 0 := by
  have h2 := h.ok
  have e := h.eq
  rw [List.drop_eq_nil_of_le (by omega)] at e
  rw [List.take_of_length_le (by omega)] at h2
  exact ⟨e, h2⟩
theorem rightF_len {l : List Lb} (h : rightF l = 0) : l.length ≤ 16 := by
  unfold rightF at h
  by_cases hl : 16 < l.length
  · rw [if_pos hl] at h; cases h
  · omega

/-! ### the loop over the posts -/
structure WlTo (H : Hd) (seq : Int) (l : List (Po × Int)) (k : Nat) (s : Wl) : Prop where
  eq : wlAll H seq l ⟨[], []⟩ = wlAll H seq (l.drop k) s
  ne : ∀ p ∈ s.will, p.2 ≠ []
  len : s.ents.length ≤ k
theorem WlTo.start (H : Hd) (seq : Int) (l : List (Po × Int)) : WlTo H seq l 0 ⟨[], []⟩ := ⟨rfl, by simp, by simp⟩
theorem mget_mem {κ ν : Type} [DecidableEq κ] {m : List (κ × ν)} {a : κ} {x : ν} (h : mget m a = some x) : (a, x) ∈ m := by
  induction m with
  | nil => simp [mget] at h
  | cons p r ih =>
    simp only [mget] at h
    split at h
    · rename_i e; cases h; cases p; simp_all
    · exact List.mem_cons_of_mem _ (ih h)
theorem mput_mem {κ ν : Type} [DecidableEq κ] {m : List (κ × ν)} {a : κ} {x : ν} {p : κ × ν} (h : p ∈ mput m a x) : p = (a, x) ∨ p ∈ m := by
  induction m with
  | nil => simp [mput] at h; exact .inl h
  | cons q r ih =>
    simp only [mput] at h
    split at h
    · rcases List.mem_cons.1 h with h | h
      · exact .inl h
      · exact .inr (List.mem_cons_of_mem _ h)
    · rcases List.mem_cons.1 h with h | h
      · exact .inr (by simp [h])
      · exact (ih h).imp id (List.mem_cons_of_mem _)
theorem WlTo.round {H : Hd} {seq : Int} {l : List (Po × Int)} {k : Nat} {s : Wl} (h : WlTo H seq l k s) (hk : k < l.length) {p : Po × Int} (hp : l[k] = p) {r : List Pt × Int × Int} (hr : putF (nowF H s.will p.2) (ptOf seq p.1) = r) :
    (r.2.2 ≠ 0 ∧ (wlAll H seq l ⟨[], []⟩).1 = r.2.2) ∨ (r.2.2 = 0 ∧ r.1 ≠ [] ∧ WlTo H seq l (k + 1) ⟨mput s.will p.2 r.1, if r.1 = nowF H s.will p.2 then s.ents else s.ents ++ [⟨IntKind.u32.wrap p.2, ptOf seq p.1⟩]⟩) := by
  have e := h.eq
  rw [List.drop_eq_getElem_cons hk, hp, wlAll, hr] at e
  by_cases h0 : r.2.2 = 0
  · rw [if_neg (by simp [h0])] at e
    have hne : r.1 ≠ [] := by rw [← hr]; exact (put_has (by rw [hr]; exact h0)).ne
    refine .inr ⟨h0, hne, ?_, fun q hq => ?_, ?_⟩
    · rw [e]; unfold wlNext; rw [hr]
    · rcases mput_mem hq with rfl | hq
      · exact hne
      · exact h.ne q hq
    · have := h.len
      simp only
      split
      · omega
      · simp; omega
  · rw [if_pos h0] at e; exact .inl ⟨h0, by rw [e]⟩
theorem WlTo.done {H : Hd} {seq : Int} {l : List (Po × Int)} {k : Nat} {s : Wl} (h : WlTo H seq l k s) (hk : ¬ k < l.length) : wlAll H seq l ⟨[], []⟩ = (0, s) := by
  rw [h.eq, List.drop_eq_nil_of_le (by omega)]; rfl

/-! ### whatever was planned is there -/
/-- what a post has come to in the end -/
structure HasAll (will : List (Int × List Pt)) (l : List (Po × Int)) : Prop where
  has : ∀ p ∈ l, ∃ m, mget will p.2 = some m ∧ rightP m = true ∧ (atP m p.1.T).isSome = true
theorem nowF_some {H : Hd} {will : List (Int × List Pt)} {ref : Int} {m : List Pt} (h : mget will ref = some m) : nowF H will ref = m := by unfold nowF; rw [h]; rfl
theorem wl_has (H : Hd) (seq : Int) : ∀ (l done : List (Po × Int)) (s : Wl), HasAll s.will done → (wlAll H seq l s).1 = 0 → HasAll (wlAll H seq l s).2.will (done ++ l)
  | [], done, s, h, _ => by simpa [wlAll] using h
  | p :: r, done, s, h, he => by
    rw [wlAll] at he ⊢
    by_cases h0 : (putF (nowF H s.will p.2) (ptOf seq p.1)).2.2 = 0
    · rw [if_neg (by simp [h0])] at he ⊢
      have hp := put_has h0
      have := wl_has H seq r (done ++ [p]) (wlNext H seq s p) ⟨fun q hq => ?_⟩ he
      · simpa using this
      · show ∃ m, mget (mput s.will p.2 _) q.2 = some m ∧ _
        rw [mget_put]
        by_cases e : p.2 = q.2
        · rw [if_pos e]
          refine ⟨_, rfl, hp.right, ?_⟩
          rw [hp.at_]
          by_cases ht : q.1.T = (ptOf seq p.1).T
          · rw [if_pos ht]; rfl
          · rw [if_neg ht]
            rcases List.mem_append.1 hq with hq | hq
            · obtain ⟨m, h1, h2, h3⟩ := h.has q hq
              rw [nowF_some (e ▸ h1)]; exact h3
            · simp at hq; subst hq; exact (ht rfl).elim
        · rw [if_neg e]
          rcases List.mem_append.1 hq with hq | hq
          · exact h.has q hq
          · simp at hq; subst hq; exact (e rfl).elim
    · rw [if_pos h0] at he; exact (h0 he).elim
/-- at a mark: where the point stands -/
theorem mark_at {will : List (Int × List Pt)} {l : List (Po × Int)} (h : HasAll will l) {k : Nat} (hk : k < l.length) : ∃ m q, mget will l[k].2 = some m ∧ Rising m ∧ m.length ≤ 65536 ∧ hasP m l[k].1.T = true ∧ m[lowP m l[k].1.T]? = some q ∧ markOf will l[k] = ⟨l[k].1.at_, decide (q.V = l[k].1.V)⟩ := by
  obtain ⟨m, h1, h2, h3⟩ := h.has l[k] (List.getElem_mem hk)
  obtain ⟨⟨_, hr⟩, hl⟩ := (rightP_iff m).1 h2
  have hh : hasP m l[k].1.T = true := by rw [has_at hr]; exact h3
  obtain ⟨q, hq, _, ha⟩ := (at_low hr _).1 hh
  refine ⟨m, q, h1, hr, hl, hh, hq, ?_⟩
  unfold markOf
  rw [h1, Option.getD_some, ha]
end Go.Proofs.YtbjglcdoekbloaaGreatDoor

/- head.Plan's loop over the posts: its memory. -/
namespace Go.Proofs.YtbjglcdoekbloaaGreatDoor
open Go.RowKit Go.Proofs.YtbjglcdoekbloaaGreatDoor.MapRaw Go.ChangeMaps

/-- what the points that are planned may be read out of: a0: the heap when Plan began, a1: when the loop began (the map and the record lie at a1, a1 + 1) -/
def Dw (a0 a1 : Nat) (ev : Value) (k : Nat) : Prop := (k < a0 ∨ a1 + 2 ≤ k) ∧ some k ≠ ev.ownBlock
def evW (w : World) (D : Nat → Prop) (l : List Pt) (v : Value) : Prop := SlP w D v l ∧ l.length ≤ 65536
theorem evW.move {w w' : World} {D : Nat → Prop} {l : List Pt} {v : Value} (h : evW w D l v) (hs : w.heap.size ≤ w'.heap.size) (hb : ∀ k, k < w.heap.size → D k → w'.heap[k]? = w.heap[k]?) : evW w' D l v := ⟨Slc.move h.1 hs hb, h.2⟩
abbrev recCells (ev : Value) : Obj := .cells #[.int .i64 2, .int .u32 0, .slice none 0 0, ev] 45 (0, 0)
structure WlMem (w : World) (a0 a1 : Nat) (m : List (Int × List Pt)) (es : List En) (ev : Value) : Prop where
  map : MapAt w eU (evW w (Dw a0 a1 ev)) a1 m
  box : w.heap[a1 + 1]? = some (recCells ev)
  ents : w.ownsRow (a1 + 2) 100 4 ev es.length (es.flatMap En.enc)
  le : a0 ≤ a1 ∧ a1 + 2 ≤ w.heap.size
theorem WlMem.start {w : World} {a0 : Nat} (h : a0 ≤ w.heap.size) : WlMem ((w.alloc (.map #[] 0)).alloc (recCells (.slice none 0 0))) a0 w.heap.size [] [] (.slice none 0 0) := by
  have s0 : (w.alloc (.map #[] 0)).heap.size = w.heap.size + 1 := by simp
  have a1 := blk_new (w.alloc (.map #[] 0)) (recCells (.slice none 0 0))
  rw [s0] at a1
  exact ⟨⟨_, _, blk_below (blk_new w (.map #[] 0)) (balloc (Below.refl _ _) _), IsMap.empty⟩, a1, ⟨rfl, .inl ⟨rfl, rfl⟩⟩, h, by simp⟩
theorem WlMem.below {w w' : World} {a0 a1 : Nat} {m : List (Int × List Pt)} {es : List En} {ev : Value} (h : WlMem w a0 a1 m es ev) (hb : Below w.heap.size w w') : WlMem w' a0 a1 m es ev :=
  ⟨h.map.move (hb.block _ h.map.blk) (fun _ _ _ hv => hv.move hb.size (fun k hk _ => hb.block k hk)), blk_below h.box hb, own_below h.ents hb, h.le.1, Nat.le_trans h.le.2 hb.size⟩
theorem own_ne {w : World} {B sz n : Nat} {e : TypeId} {v : Value} {xs : List Value} (h : w.ownsRow B e sz v n xs) {k : Nat} (hk : k < B) : some k ≠ v.ownBlock := fun e => by
  have := ownsRow_blk h k e.symm; omega
/-- the map turns -/
theorem WlMem.put {w : World} {a0 a1 : Nat} {m m' : List (Int × List Pt)} {es : List En} {ev : Value} {ms : Array MapEntry} {c : Nat} (h : WlMem w a0 a1 m es ev) (hM : IsMap eU (evW w (Dw a0 a1 ev)) ms c m') : WlMem (setBlock w a1 (.map ms c)) a0 a1 m' es ev := by
  have hle := h.le
  have keep : ∀ k, k ≠ a1 → (setBlock w a1 (.map ms c)).heap[k]? = w.heap[k]? := fun k hne => setBlock_ne hne _
  refine ⟨⟨ms, c, setBlock_at (by omega) _, hM.imp fun p _ v hv => hv.move (by rw [setBlock_size]; exact Nat.le_refl _) (fun k hk hD => keep k (by have := hD.1; omega))⟩, ?_, ownsRow_move h.ents (fun k hk => keep k ?_), hle.1, by rw [setBlock_size]; exact hle.2⟩
  · rw [keep _ (by omega)]; exact h.box
  · have := ownsRow_blk h.ents k hk
    omega
/-- the row of entries grows: what is read stays -/
theorem slc_push {α : Type} {sz : Nat} {enc : α → List Value} {w w5 : World} {a0 a1 : Nat} {ev v5 v : Value} {l : List α} (h : Slc sz enc w (Dw a0 a1 ev) v l) (ha : a0 ≤ a1) (hg : w.grownBy w5 ev.ownBlock) (hv : v5.ownBlock = ev.ownBlock ∨ v5.ownBlock = some w.heap.size) : Slc sz enc (w5.setCell ⟨a1 + 1, 3, none⟩ v5) (Dw a0 a1 v5) v l := by
  refine ((Slc.mono (D' := fun k => Dw a0 a1 v5 k ∧ Dw a0 a1 ev k) h (fun k hk hD => ⟨⟨hD.1, ?_⟩, hD⟩)).move (by simp [World.setCell]; exact hg.size) (fun k hk hD => ?_)).mono (fun k _ hD => hD.1)
  · rcases hv with hv | hv
    · rw [hv]; exact hD.2
    · rw [hv]; intro e; cases e; omega
  · have hne : k ≠ a1 + 1 := by have := hD.1.1; omega
    rw [Below.heap_setCell _ _ _ _ hne]
    exact hg.block k hk hD.2.2
theorem WlMem.push {w w5 : World} {a0 a1 : Nat} {m : List (Int × List Pt)} {es : List En} {ev v5 : Value} {x : En} (h : WlMem w a0 a1 m es ev) (ho : w5.ownsRow (a1 + 2) 100 4 v5 (es.length + 1) (es.flatMap En.enc ++ x.enc)) (hg : w.grownBy w5 ev.ownBlock) (hv : v5.ownBlock = ev.ownBlock ∨ v5.ownBlock = some w.heap.size) :
    WlMem (w5.setCell ⟨a1 + 1, 3, none⟩ v5) a0 a1 m (es ++ [x]) v5 := by
  have hle := h.le
  have keep : ∀ k, k < a1 + 2 → k ≠ a1 + 1 → (w5.setCell ⟨a1 + 1, 3, none⟩ v5).heap[k]? = w.heap[k]? := fun k hk hne => by
    rw [Below.heap_setCell _ _ _ _ hne]
    exact hg.block k (by omega) (own_ne h.ents hk)
  have hr : w5.heap[a1 + 1]? = some (recCells ev) := blk_grown h.box hg (own_ne h.ents (by omega))
  refine ⟨h.map.move (keep _ (by omega) (by omega)) (fun _ _ _ hv' => ⟨slc_push hv'.1 hle.1 hg hv, hv'.2⟩), setCell_blk (i := 3) v5 hr, ownsRow_move (by simpa using ho) (fun k hk => Below.heap_setCell _ _ _ _ ?_), hle.1, ?_⟩
  · have := ownsRow_blk ho k hk
    show k ≠ a1 + 1
    omega
  · simp [World.setCell]; exact Nat.le_trans hle.2 hg.size
theorem WlMem.recAt {w : World} {a0 a1 : Nat} {m : List (Int × List Pt)} {es : List En} {ev : Value} (h : WlMem w a0 a1 m es ev) : w.cell? ⟨a1 + 1, 3, none⟩ = some ev := by
  have := blk_cell h.box 3
  simpa using this
/-- what is looked up in the map of what is planned -/
theorem will_look {w : World} {a0 a1 : Nat} {m : List (Int × List Pt)} {es : List En} {ev : Value} (h : WlMem w a0 a1 m es ev) (ref : Int) :
    ∃ ms c v, w.heap[a1]? = some (.map ms c) ∧ IsMap eU (evW w (Dw a0 a1 ev)) ms c m ∧ (mget m ref = none → v = .slice none 0 0) ∧ (∀ x, mget m ref = some x → evW w (Dw a0 a1 ev) x v) ∧
      ∀ W : World, W.heap[a1]? = some (.map ms c) → (Instr.lookup 88 (.map (some a1)) (.int .u64 ref) false).run Tryz.prog W = .ok v W := by
  obtain ⟨ms, c, ho, hM⟩ := h.map
  obtain ⟨v, _, h1, h2, h3⟩ := lookup_all keyU Tryz.underlying88 zeroPoints a1 hM (a := ref) trivial (fun _ _ => trivial)
  exact ⟨ms, c, v, ho, hM, h2, h3, h1⟩
theorem slc_some {α : Type} {sz : Nat} {enc : α → List Value} {w : World} {D : Nat → Prop} {v : Value} {l : List α} (h : Slc sz enc w D v l) (hne : l ≠ []) : ∃ b off c, v = .slice (some ⟨b, off, none⟩) l.length c := by
  obtain ⟨A, c, rfl, _, _, _, _, h5⟩ := h
  cases l with
  | nil => exact (hne rfl).elim
  | cons x r =>
    obtain ⟨b, off, e, _⟩ := h5 0 x rfl
    exact ⟨b, off, c, by rw [e]⟩
/-- what the marks are read off -/
def MarksAt (w : World) (qb a1 : Nat) (ofv : Value) (ofl : List Int) (will : List (Int × List Pt)) : Prop :=
  w.cell? ⟨qb, 0, none⟩ = some ofv ∧ Slc 1 encU w (fun _ => True) ofv ofl ∧ ∃ ms mc, w.heap[a1]? = some (.map ms mc) ∧ IsMap eU (evW w (fun _ => True)) ms mc will
theorem MarksAt.below {w w' : World} {qb a1 : Nat} {ofv : Value} {ofl : List Int} {will : List (Int × List Pt)} (h : MarksAt w qb a1 ofv ofl will) (hb : Below w.heap.size w w') : MarksAt w' qb a1 ofv ofl will := by
  obtain ⟨h1, h2, ms, mc, h3, h4⟩ := h
  exact ⟨later hb h1, h2.below hb, ms, mc, blk_below h3 hb, h4.imp fun p _ v hv => hv.move hb.size (fun k hk _ => hb.block k hk)⟩
theorem marks_of {w w6 : World} {B qb a0 a1 : Nat} {row : Option Nat} {ofl : List Int} {ofv bornv mv tv ev : Value} {T : TypeId} {will : List (Int × List Pt)} {es : List En} (hq : w.heap[qb]? = some (.cells #[ofv, bornv, mv, tv] T (0, 0))) (hof : w.ownsRow B 23 1 ofv ofl.length (ofl.flatMap encU)) (hm : WlMem w a0 a1 will es ev)
    (hg : w.grownBy w6 row) (hrow : ∀ k, row = some k → k ≠ qb ∧ ofv.ownBlock ≠ some k ∧ a0 ≤ k ∧ k < a1) : MarksAt w6 qb a1 ofv ofl will ∧ Slc 4 En.enc w6 (fun k => a1 + 2 ≤ k) ev es := by
  have hle := hm.le
  have keep : ∀ k, k < w.heap.size → some k ≠ row → w6.heap[k]? = w.heap[k]? := fun k hk hne => hg.block k hk hne
  refine ⟨⟨?_, ?_, ?_⟩, ?_⟩
  · have hq6 := blk_grown hq hg (fun e => (hrow _ e.symm).1 rfl)
    have := blk_cell hq6 0
    simpa using this
  · have h6 := ownsRow_move (w' := w6) hof (fun k hk => keep k (ownsRow_blk hof k hk).2 (fun e => (hrow k e.symm).2.1 hk))
    exact (own_slc encU_len rfl h6).mono (fun _ _ _ => trivial)
  · obtain ⟨ms, mc, h3, h4⟩ := hm.map
    refine ⟨ms, mc, blk_grown h3 hg (fun e => by have := (hrow _ e.symm).2.2.2; omega), h4.imp fun p _ v hv => ⟨(Slc.move hv.1 hg.size (fun k hk hD => keep k hk (fun e => ?_))).mono (fun _ _ _ => trivial), hv.2⟩⟩
    have := hrow k e.symm
    have := hD.1
    omega
  · have h6 := ownsRow_move (w' := w6) hm.ents (fun k hk => keep k (ownsRow_blk hm.ents k hk).2 (fun e => by have := hrow k e.symm; have := ownsRow_blk hm.ents k hk; omega))
    exact own_slc en_len rfl h6
/-- the records that are planned -/
def RecsAt (a0 : Nat) (rs : List Rec) (v : Value) (w : World) : Prop := ∃ rl, Slc 4 RecV.enc w (fun k => a0 ≤ k) v rl ∧ RecOk w (fun k => a0 ≤ k) rl ∧ rl.map RecV.r = rs
theorem RecsAt.below {a0 : Nat} {rs : List Rec} {v : Value} {w w' : World} (h : RecsAt a0 rs v w) (hb : Below w.heap.size w w') : RecsAt a0 rs v w' := by
  obtain ⟨rl, h1, h2, h3⟩ := h
  exact ⟨rl, h1.below hb, h2.move hb.size (fun k hk _ => hb.block k hk), h3⟩
theorem recs_one {w w6 : World} {B mb a0 a1 : Nat} {ml ofl : List Int} {ofv bornv ev v6 : Value} {bl : List RecV} {es : List En} (h : LkRest w B mb ml ofl ofv bornv bl) (ho : w6.ownsRow B 45 4 v6 (bl.length + 1) (bl.flatMap RecV.enc ++ RecV.enc ⟨⟨2, 0, [], es⟩, .slice none 0 0, ev⟩)) (hg : w.grownBy w6 bornv.ownBlock)
    (he : Slc 4 En.enc w6 (fun k => a1 + 2 ≤ k) ev es) (hB : a0 ≤ B) (ha : a0 ≤ a1) : RecsAt a0 (bl.map RecV.r ++ [⟨2, 0, [], es⟩]) v6 w6 := by
  refine ⟨bl ++ [⟨⟨2, 0, [], es⟩, .slice none 0 0, ev⟩], (own_slc (n := bl.length + 1) recV_len (by simp) (by simpa using ho)).mono (fun k _ hk => Nat.le_trans hB hk), fun x hx => ?_, by simp⟩
  rcases List.mem_append.1 hx with hx | hx
  · exact ((RecOk.move h.labs hg.size (fun k hk hD => hg.block k hk hD.2.2)).mono (fun k _ hD => Nat.le_trans hB hD.1)) x hx
  · simp at hx; subst hx
    exact ⟨Slc.nil _ _ _ _, he.mono (fun k _ hk => by omega)⟩
theorem recs_none {w : World} {B mb a0 : Nat} {ml ofl : List Int} {ofv bornv : Value} {bl : List RecV} (h : LkRest w B mb ml ofl ofv bornv bl) (hB : a0 ≤ B) : RecsAt a0 (bl.map RecV.r) bornv w :=
  ⟨bl, (own_slc recV_len rfl h.born).mono (fun k _ hk => Nat.le_trans hB hk), h.labs.mono (fun k _ hD => Nat.le_trans hB hD.1), rfl⟩
end Go.Proofs.YtbjglcdoekbloaaGreatDoor
