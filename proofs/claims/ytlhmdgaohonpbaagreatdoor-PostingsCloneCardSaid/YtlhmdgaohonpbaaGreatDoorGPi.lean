import Derived.Test.YtlhmdgaohonpbaaGreatDoorGLaB
import Derived.Test.YtlhmdgaohonpbaaGreatDoorGSeA
import Derived.Test.YtlhmdgaohonpbaaGreatDoorGRf0
import Derived.Lib.SlicesCompact
import Derived.Test.YtlhmdgaohonpbaaGreatDoorGIx
set_option linter.unusedSimpArgs false
set_option linter.unusedVariables false
set_option linter.unusedSectionVars false
namespace Go.Proofs.YtlhmdgaohonpbaaGreatDoor
open Go.RowKit Go.Proofs.YtlhmdgaohonpbaaGreatDoor.MapRaw Go.ChangeMaps
abbrev HasL := List ((ByteArray × ByteArray) × List (Int × Int))
def keysH (H : HasL) (a : ByteArray × ByteArray) : List Int := ((mget H a).getD []).map (·.1)
structure HasOk (H : HasL) : Prop where
 nd : (H.map (·.1)).Nodup
 at_ : ∀ a m, mget H a = some m → m ≠ [] ∧ (m.map (·.1)).Nodup
structure IxOk (I : Ix) : Prop where
 an : (I.all.map (·.1)).Nodup
 rn : (I.refs.map (·.1)).Nodup
 has : HasOk I.has
 right : ∀ r l, mget I.all r = some l → rightF l = 0
 lab : ∀ r l, mget I.all r = some l → mget I.refs (printF l) = some r
 ref : ∀ s r, mget I.refs s = some r → ∃ l, mget I.all r = some l ∧ printF l = s
 hasr : ∀ a r, r ∈ keysH I.has a ↔ ∃ l, mget I.all r = some l ∧ ∃ y ∈ l, (y.n, y.v) = a
def ix0 : Ix := ⟨[], [], []⟩
theorem IxOk.start : IxOk ix0 := ⟨by simp [ix0], by simp [ix0], ⟨by simp [ix0], fun a m h => by simp [ix0, mget] at h⟩, fun r l h => by simp [ix0, mget] at h, fun r l h => by simp [ix0, mget] at h, fun s r h => by simp [ix0, mget] at h, fun a r => by simp [ix0, keysH, mget]⟩
theorem mput_ne_nil {κ ν : Type} [DecidableEq κ] (m : List (κ × ν)) (a : κ) (x : ν) : mput m a x ≠ [] := by
 intro e
 have : a ∈ (mput m a x).map (·.1) := mput_keys_mem.2 (.inl rfl)
 rw [e] at this; simp at this
theorem HasOk.inner {H : HasL} (h : HasOk H) (a : ByteArray × ByteArray) : (keysH H a).Nodup := by
 unfold keysH
 cases hg : mget H a with
 | none => simp
 | some m => exact (h.at_ a m hg).2
theorem hasPut_ok {H : HasL} (h : HasOk H) (ref : Int) (y : Lb) : HasOk (hasPut H ref y) ∧ ∀ a r, r ∈ keysH (hasPut H ref y) a ↔ r ∈ keysH H a ∨ (r = ref ∧ (y.n, y.v) = a) := by
 have hg : ∀ a, mget (hasPut H ref y) a = if (y.n, y.v) = a then some (mput ((mget H (y.n, y.v)).getD []) ref 1) else mget H a := fun a => mget_put _ _ _ _
 refine ⟨⟨mput_nodup h.nd _ _, fun a m hm => ?_⟩, fun a r => ?_⟩
 ·rw [hg] at hm
  by_cases e : (y.n, y.v) = a
  ·rw [if_pos e] at hm
   cases hm
   exact ⟨mput_ne_nil _ _ _, mput_nodup (h.inner (y.n, y.v)) _ _⟩
  ·rw [if_neg e] at hm; exact h.at_ a m hm
 ·unfold keysH
  rw [hg]
  by_cases e : (y.n, y.v) = a
  ·rw [if_pos e]
   subst e
   simp only [Option.getD_some, mput_keys_mem, and_true]
   exact or_comm
  ·rw [if_neg e]
   constructor
   ·exact fun h => .inl h
   ·rintro (h | ⟨_, h⟩)
    ·exact h
    ·exact (e h).elim
theorem hasAdd_ok (ref : Int) : ∀ (l : List Lb) (H : HasL), HasOk H → HasOk (hasAdd H ref l) ∧ ∀ a r, r ∈ keysH (hasAdd H ref l) a ↔ r ∈ keysH H a ∨ (r = ref ∧ ∃ y ∈ l, (y.n, y.v) = a)
 | [], H, h => ⟨h, fun a r => by simp [hasAdd]⟩
 | y :: l, H, h => by
  obtain ⟨h1, h2⟩ := hasPut_ok h ref y
  obtain ⟨h3, h4⟩ := hasAdd_ok ref l _ h1
  refine ⟨h3, fun a r => ?_⟩
  show r ∈ keysH (hasAdd (hasPut H ref y) ref l) a ↔ _
  rw [h4, h2]
  simp only [List.mem_cons, exists_eq_or_imp]
  constructor
  ·rintro ((h | ⟨h, e⟩) | ⟨h, e⟩)
   ·exact .inl h
   ·exact .inr ⟨h, .inl e⟩
   ·exact .inr ⟨h, .inr e⟩
  ·rintro (h | ⟨h, e | e⟩)
   ·exact .inl (.inl h)
   ·exact .inl (.inr ⟨h, e⟩)
   ·exact .inr ⟨h, e⟩
def hasDrop (H : HasL) (ref : Int) (y : Lb) : HasL :=
 if mdel ((mget H (y.n, y.v)).getD []) ref = [] then mdel H (y.n, y.v) else mput H (y.n, y.v) (mdel ((mget H (y.n, y.v)).getD []) ref)
def hasCut (H : HasL) (ref : Int) (l : List Lb) : HasL := l.foldl (fun H y => hasDrop H ref y) H
theorem mdel_mem {κ ν : Type} [DecidableEq κ] {m : List (κ × ν)} (h : (m.map (·.1)).Nodup) (a b : κ) : b ∈ (mdel m a).map (·.1) ↔ b ∈ m.map (·.1) ∧ b ≠ a := by
 have h1 := mget_del h a b
 have k1 : b ∈ (mdel m a).map (·.1) ↔ mget (mdel m a) b ≠ none := by rw [Ne, mget_none, Classical.not_not]
 have k2 : b ∈ m.map (·.1) ↔ mget m b ≠ none := by rw [Ne, mget_none, Classical.not_not]
 rw [k1, k2, h1]
 by_cases e : a = b
 ·subst e; simp
 ·have : b ≠ a := fun h => e h.symm
  simp [e, this]
theorem hasDrop_ok {H : HasL} (h : HasOk H) (ref : Int) (y : Lb) : HasOk (hasDrop H ref y) ∧ ∀ a r, r ∈ keysH (hasDrop H ref y) a ↔ r ∈ keysH H a ∧ ¬ (r = ref ∧ (y.n, y.v) = a) := by
 have hin : (((mget H (y.n, y.v)).getD []).map (·.1)).Nodup := h.inner (y.n, y.v)
 have hmm := fun r => mdel_mem hin ref r
 unfold hasDrop
 by_cases hz : mdel ((mget H (y.n, y.v)).getD []) ref = []
 ·rw [if_pos hz]
  rw [hz] at hmm
  have hg : ∀ a, mget (mdel H (y.n, y.v)) a = if (y.n, y.v) = a then none else mget H a := fun a => mget_del h.nd _ _
  refine ⟨⟨mdel_nodup h.nd _, fun a m hm => ?_⟩, fun a r => ?_⟩
  ·rw [hg] at hm
   by_cases e : (y.n, y.v) = a
   ·rw [if_pos e] at hm; cases hm
   ·rw [if_neg e] at hm; exact h.at_ a m hm
  ·unfold keysH
   rw [hg]
   by_cases e : (y.n, y.v) = a
   ·rw [if_pos e]
    subst e
    simp only [and_true]
    exact hmm r
   ·rw [if_neg e]
    simp [e]
 ·rw [if_neg hz]
  have hg : ∀ a, mget (mput H (y.n, y.v) (mdel ((mget H (y.n, y.v)).getD []) ref)) a = if (y.n, y.v) = a then some (mdel ((mget H (y.n, y.v)).getD []) ref) else mget H a := fun a => mget_put _ _ _ _
  refine ⟨⟨mput_nodup h.nd _ _, fun a m hm => ?_⟩, fun a r => ?_⟩
  ·rw [hg] at hm
   by_cases e : (y.n, y.v) = a
   ·rw [if_pos e] at hm; cases hm
    exact ⟨hz, mdel_nodup hin _⟩
   ·rw [if_neg e] at hm; exact h.at_ a m hm
  ·unfold keysH
   rw [hg]
   by_cases e : (y.n, y.v) = a
   ·rw [if_pos e]
    subst e
    simp only [and_true]
    exact hmm r
   ·rw [if_neg e]
    simp [e]
theorem hasCut_ok (ref : Int) : ∀ (l : List Lb) (H : HasL), HasOk H → HasOk (hasCut H ref l) ∧ ∀ a r, r ∈ keysH (hasCut H ref l) a ↔ r ∈ keysH H a ∧ ¬ (r = ref ∧ ∃ y ∈ l, (y.n, y.v) = a)
 | [], H, h => ⟨h, fun a r => by simp [hasCut]⟩
 | y :: l, H, h => by
  obtain ⟨h1, h2⟩ := hasDrop_ok h ref y
  obtain ⟨h3, h4⟩ := hasCut_ok ref l _ h1
  refine ⟨h3, fun a r => ?_⟩
  show r ∈ keysH (hasCut (hasDrop H ref y) ref l) a ↔ _
  rw [h4, h2]
  simp only [List.mem_cons, exists_eq_or_imp]
  constructor
  ·rintro ⟨⟨h, e1⟩, e2⟩
   exact ⟨h, fun ⟨a1, a2⟩ => a2.elim (fun x => e1 ⟨a1, x⟩) (fun x => e2 ⟨a1, x⟩)⟩
  ·rintro ⟨h, e⟩
   exact ⟨⟨h, fun ⟨a1, a2⟩ => e ⟨a1, .inl a2⟩⟩, fun ⟨a1, a2⟩ => e ⟨a1, .inr a2⟩⟩
def cutI (I : Ix) (ref : Int) : Ix := match mget I.all ref with
 | none => I
 | some l => ⟨mdel I.all ref, mdel I.refs (printF l), hasCut I.has ref l⟩
theorem IxOk.inj {I : Ix} (h : IxOk I) {r r' : Int} {l : List Lb} (h1 : mget I.all r = some l) (h2 : mget I.all r' = some l) : r = r' := by
 have a := h.lab _ _ h1
 rw [h.lab _ _ h2] at a
 exact (Option.some.inj a).symm
theorem IxOk.add {I : Ix} (h : IxOk I) {n : Int} {lab : List Lb} (hr : rightF lab = 0) (ha : mget I.all n = none) (hp : mget I.refs (printF lab) = none) : IxOk (addI I n lab) := by
 have hall' : ∀ r, mget (addI I n lab).all r = if n = r then some lab else mget I.all r := fun r => mget_put _ _ _ _
 have href' : ∀ s, mget (addI I n lab).refs s = if printF lab = s then some n else mget I.refs s := fun r => mget_put _ _ _ _
 obtain ⟨hk, hm⟩ := hasAdd_ok n lab I.has h.has
 refine ⟨mput_nodup h.an _ _, mput_nodup h.rn _ _, hk, fun r l h1 => ?_, fun r l h1 => ?_, fun s r h1 => ?_, fun a r => ?_⟩
 ·rw [hall'] at h1
  by_cases e : n = r
  ·rw [if_pos e] at h1; cases h1; exact hr
  ·rw [if_neg e] at h1; exact h.right _ _ h1
 ·rw [hall'] at h1
  by_cases e : n = r
  ·rw [if_pos e] at h1; cases h1
   rw [href', if_pos rfl, e]
  ·rw [if_neg e] at h1
   have g2 := h.lab _ _ h1
   rw [href', if_neg (fun e2 => by rw [e2, g2] at hp; cases hp)]
   exact g2
 ·rw [href'] at h1
  by_cases e : printF lab = s
  ·rw [if_pos e] at h1; cases h1
   exact ⟨lab, by rw [hall', if_pos rfl], e⟩
  ·rw [if_neg e] at h1
   obtain ⟨l, g1, g2⟩ := h.ref _ _ h1
   exact ⟨l, by rw [hall', if_neg (fun e2 => by rw [e2, g1] at ha; cases ha)]; exact g1, g2⟩
 ·show r ∈ keysH (hasAdd I.has n lab) a ↔ _
  rw [hm, h.hasr]
  by_cases e : n = r
  ·subst e
   simp only [hall', if_true, ha]
   constructor
   ·rintro (⟨l, h, _⟩ | ⟨_, h⟩)
    ·cases h
    ·exact ⟨lab, rfl, h⟩
   ·rintro ⟨l, h1, h2⟩
    cases h1
    exact .inr ⟨trivial, h2⟩
  ·simp only [hall', if_neg e]
   constructor
   ·rintro (h | ⟨h, _⟩)
    ·exact h
    ·exact (e h.symm).elim
   ·exact fun h => .inl h
theorem IxOk.cut {I : Ix} (h : IxOk I) (n : Int) : IxOk (cutI I n) ∧ (∀ r, mget (cutI I n).all r = if n = r then none else mget I.all r) := by
 unfold cutI
 cases hg : mget I.all n with
 | none =>
  refine ⟨h, fun r => ?_⟩
  by_cases e : n = r
  ·rw [if_pos e, ← e]; exact hg
  ·rw [if_neg e]
 | some lab =>
  have hall' : ∀ r, mget (mdel I.all n) r = if n = r then none else mget I.all r := fun r => mget_del h.an _ _
  have href' : ∀ s, mget (mdel I.refs (printF lab)) s = if printF lab = s then none else mget I.refs s := fun r => mget_del h.rn _ _
  obtain ⟨hk, hm⟩ := hasCut_ok n lab I.has h.has
  refine ⟨⟨mdel_nodup h.an _, mdel_nodup h.rn _, hk, fun r l h1 => ?_, fun r l h1 => ?_, fun s r h1 => ?_, fun a r => ?_⟩, hall'⟩
  ·rw [hall'] at h1
   by_cases e : n = r
   ·rw [if_pos e] at h1; cases h1
   ·rw [if_neg e] at h1; exact h.right _ _ h1
  ·rw [hall'] at h1
   by_cases e : n = r
   ·rw [if_pos e] at h1; cases h1
   ·rw [if_neg e] at h1
    have g2 := h.lab _ _ h1
    rw [href', if_neg]
    ·exact g2
    ·intro e2
     have := print_inj (h.right _ _ hg) (h.right _ _ h1) e2
     subst this
     exact e (h.inj hg h1)
  ·rw [href'] at h1
   by_cases e : printF lab = s
   ·rw [if_pos e] at h1; cases h1
   ·rw [if_neg e] at h1
    obtain ⟨l, g1, g2⟩ := h.ref _ _ h1
    refine ⟨l, ?_, g2⟩
    rw [hall', if_neg]
    ·exact g1
    ·intro e2
     subst e2
     rw [hg] at g1; cases g1
     exact e g2
  ·show r ∈ keysH (hasCut I.has n lab) a ↔ _
   rw [hm, h.hasr]
   by_cases e : n = r
   ·subst e
    simp only [hall', if_true, hg]
    constructor
    ·rintro ⟨⟨l, h1, h2⟩, h3⟩
     cases h1
     exact (h3 ⟨trivial, h2⟩).elim
    ·rintro ⟨l, h1, _⟩
     cases h1
   ·simp only [hall', if_neg e]
    constructor
    ·exact fun h => h.1
    ·exact fun h => ⟨h, fun h2 => e h2.1.symm⟩
theorem bytes_ext {a b : ByteArray} (h : (a.toList == b.toList) = true) : a = b := by
 rw [← beq_toListBytes, ba_beq] at h
 exact of_decide_eq_true h
theorem pass_aim {ml : List Mt} {l : List Lb} {a : ByteArray × ByteArray} (h : aimF ml = some a) (hp : passL ml l = true) : ∃ y ∈ l, (y.n, y.v) = a := by
 unfold aimF at h
 obtain ⟨m, h1, rfl⟩ := Option.map_eq_some_iff.1 h
 have hm := List.mem_of_find?_eq_some h1
 have ha := List.find?_some h1
 unfold passL at hp
 have hp2 := List.all_eq_true.1 hp m hm
 unfold aimB at ha
 rw [Bool.and_eq_true] at ha
 have hk : m.kind = 1 := by simpa using ha.1
 unfold passF at hp2
 rw [if_pos hk] at hp2
 have hv := bytes_ext hp2
 unfold valL at hv
 cases hf : l.find? (fun x => x.n.toList == m.n.toList) with
 | none =>
  rw [hf] at hv
  simp only at hv
  rw [← hv] at ha
  have h0 := ha.2
  have e0 : (ByteArray.mk #[]).toList = [] := by unfold ByteArray.toList ByteArray.toList.loop; rfl
  rw [e0] at h0
  cases h0
 | some y =>
  rw [hf] at hv
  exact ⟨y, List.mem_of_find?_eq_some hf, by rw [bytes_ext (List.find?_some (p := fun x : Lb => x.n.toList == m.n.toList) hf)]; simp only at hv; rw [hv]⟩
def selL (I : Ix) (ml : List Mt) : List Int := (I.all.filter fun p => passL ml p.2).map (·.1)
def selectF (I : Ix) (ml : List Mt) : List Int := sortedF (selL I ml)
def takeB (I : Ix) (ml : List Mt) (r : Int) : Bool := passL ml ((mget I.all r).getD [])
theorem selL_nodup {I : Ix} (h : (I.all.map (·.1)).Nodup) (ml : List Mt) : (selL I ml).Nodup := h.sublist (List.filter_sublist.map _)
theorem mem_selL {I : Ix} (h : (I.all.map (·.1)).Nodup) (ml : List Mt) (r : Int) : r ∈ selL I ml ↔ ∃ l, mget I.all r = some l ∧ passL ml l = true := by
 unfold selL
 rw [List.mem_map]
 constructor
 ·rintro ⟨p, hp, rfl⟩
  rw [List.mem_filter] at hp
  exact ⟨p.2, mget_of_mem h hp.1, hp.2⟩
 ·rintro ⟨l, h1, h2⟩
  exact ⟨(r, l), List.mem_filter.2 ⟨mget_mem h1, h2⟩, rfl⟩
theorem sel_perm {I : Ix} (h : (I.all.map (·.1)).Nodup) (ml : List Mt) {keys : List Int} (hk : keys.Nodup) (h1 : ∀ r l, mget I.all r = some l → passL ml l = true → r ∈ keys) (h2 : ∀ r ∈ keys, (mget I.all r).isSome = true) : (keys.filter (takeB I ml)).Perm (selL I ml) := by
 rw [List.perm_ext_iff_of_nodup (hk.sublist List.filter_sublist) (selL_nodup h ml)]
 intro r
 rw [mem_selL h, List.mem_filter]
 unfold takeB
 constructor
 ·rintro ⟨a, b⟩
  obtain ⟨l, hl⟩ := Option.isSome_iff_exists.1 (h2 r a)
  rw [hl] at b
  exact ⟨l, hl, b⟩
 ·rintro ⟨l, a, b⟩
  refine ⟨h1 r l a b, ?_⟩
  rw [a]; exact b
theorem sel_all {I : Ix} (h : (I.all.map (·.1)).Nodup) (ml : List Mt) : ((I.all.map (·.1)).filter (takeB I ml)).Perm (selL I ml) :=
 sel_perm h ml h (fun r l hl _ => List.mem_map_of_mem (f := (·.1)) (mget_mem hl)) (fun r hr => by
  have : mget I.all r ≠ none := fun e => (mget_none.1 e) hr
  exact Option.isSome_iff_ne_none.2 this)
theorem sel_aim {I : Ix} (h : IxOk I) {ml : List Mt} {a : ByteArray × ByteArray} (ha : aimF ml = some a) : ((keysH I.has a).filter (takeB I ml)).Perm (selL I ml) :=
 sel_perm h.an ml (h.has.inner a) (fun r l hl hp => (h.hasr a r).2 ⟨l, hl, pass_aim ha hp⟩) (fun r hr => by
  obtain ⟨l, hl, _⟩ := (h.hasr a r).1 hr
  rw [hl]; rfl)
theorem mem_select {I : Ix} (h : IxOk I) (ml : List Mt) (r : Int) : r ∈ selectF I ml ↔ ∃ l, mget I.all r = some l ∧ passL ml l = true := by
 unfold selectF
 rw [(sorted_perm _).mem_iff, mem_selL h.an]
end Go.Proofs.YtlhmdgaohonpbaaGreatDoor

namespace Go.Proofs.YtlhmdgaohonpbaaGreatDoor
open Go.RowKit Go.Lib
theorem strict_ext {a b : List Int} (ha : a.Pairwise (· < ·)) (hb : b.Pairwise (· < ·)) (h : ∀ x, x ∈ a ↔ x ∈ b) : a = b := by
 have na : a.Nodup := ha.imp (fun h e => by omega)
 have nb : b.Nodup := hb.imp (fun h e => by omega)
 exact List.Perm.eq_of_pairwise (fun x y _ _ h1 h2 => by omega) ha hb ((List.perm_ext_iff_of_nodup na nb).2 h)
theorem sorted_le (l : List Int) : (sortedF l).Pairwise (· ≤ ·) := by
 have tr : ∀ x y z : Int, decide (x ≤ y) = true → decide (y ≤ z) = true → decide (x ≤ z) = true := fun x y z h1 h2 => by simp at *; omega
 have tot : ∀ x y : Int, (decide (x ≤ y) || decide (y ≤ x)) = true := fun x y => by simp; omega
 exact (List.pairwise_mergeSort tr tot l).imp (fun h => by simpa using h)
theorem sorted_is {a b : List Int} (hp : a.Perm b) (hb : b.Pairwise (· ≤ ·)) : sortedF a = b :=
 List.Perm.eq_of_pairwise (fun x y _ _ h1 h2 => by omega) (sorted_le a) hb ((sorted_perm a).trans hp)
theorem upTo_spec (d : Array Int) (hs : ∀ i j, i ≤ j → j < d.size → d[i]! ≤ d[j]!) : ∀ m, m ≤ d.size → (compactUpTo d m).Pairwise (· < ·) ∧ (∀ x, x ∈ compactUpTo d m ↔ ∃ j, j < m ∧ d[j]! = x)
 | 0, _ => by simp [compactUpTo]
 | m + 1, hm => by
  obtain ⟨h1, h2⟩ := upTo_spec d hs m (by omega)
  rw [compactUpTo_succ]
  cases hk : keeps d m with
  | true =>
   rw [if_pos rfl]
   refine ⟨?_, fun x => ?_⟩
   ·rw [List.pairwise_append]
    refine ⟨h1, by simp, fun a ha b hb => ?_⟩
    simp at hb
    subst hb
    obtain ⟨j, hj, rfl⟩ := (h2 a).1 ha
    unfold keeps at hk
    have hk2 := of_decide_eq_true hk
    have g1 := hs j (m - 1) (by omega) (by omega)
    have g2 := hs (m - 1) m (by omega) (by omega)
    rcases hk2 with rfl | hk2
    ·omega
    ·omega
   ·rw [List.mem_append, h2]
    simp only [List.mem_singleton]
    constructor
    ·rintro (⟨j, hj, e⟩ | e)
     ·exact ⟨j, by omega, e⟩
     ·exact ⟨m, by omega, e.symm⟩
    ·rintro ⟨j, hj, e⟩
     by_cases e2 : j = m
     ·subst e2; exact .inr e.symm
     ·exact .inl ⟨j, by omega, e⟩
  | false =>
   rw [if_neg (by decide), List.append_nil]
   refine ⟨h1, fun x => ?_⟩
   rw [h2]
   unfold keeps at hk
   have hk2 := of_decide_eq_false hk
   have hm0 : m ≠ 0 := fun e => hk2 (.inl e)
   have heq : d[m]! = d[m - 1]! := Classical.byContradiction fun e => hk2 (.inr e)
   constructor
   ·rintro ⟨j, hj, e⟩; exact ⟨j, by omega, e⟩
   ·rintro ⟨j, hj, e⟩
    by_cases e2 : j = m
    ·subst e2; exact ⟨j - 1, by omega, by rw [← heq]; exact e⟩
    ·exact ⟨j, by omega, e⟩
theorem compact_spec {zs : List Int} (h : zs.Pairwise (· ≤ ·)) : (compact zs).Pairwise (· < ·) ∧ ∀ x, x ∈ compact zs ↔ x ∈ zs := by
 have hg : ∀ j, j < zs.length → zs.toArray[j]! = zs[j]! := fun j hj => by simp
 obtain ⟨h1, h2⟩ := upTo_spec zs.toArray (fun i j hij hj => by
  have hj' : j < zs.length := by simpa using hj
  rw [hg i (by omega), hg j hj', getElem!_pos zs i (by omega), getElem!_pos zs j hj']
  by_cases e : i = j
  ·subst e; exact Int.le_refl _
  ·exact (List.pairwise_iff_getElem.1 h) i j (by omega) hj' (by omega)) zs.length (by simp)
 refine ⟨h1, fun x => ?_⟩
 unfold compact
 rw [h2, List.mem_iff_getElem]
 constructor
 ·rintro ⟨j, hj, e⟩
  rw [hg j hj, getElem!_pos zs j hj] at e
  exact ⟨j, hj, e⟩
 ·rintro ⟨j, hj, e⟩
  refine ⟨j, hj, ?_⟩
  rw [hg j hj, getElem!_pos zs j hj]
  exact e
def setF (l : List Int) : List Int := compact (sortedF l)
theorem set_strict (l : List Int) : (setF l).Pairwise (· < ·) := (compact_spec (sorted_le l)).1
theorem mem_set {l : List Int} {x : Int} : x ∈ setF l ↔ x ∈ l := by
 unfold setF
 rw [(compact_spec (sorted_le l)).2, (sorted_perm l).mem_iff]
theorem compact_len (ks : List Int) : (compact ks).length ≤ ks.length := by
 unfold compact compactUpTo
 rw [List.length_map]
 exact Nat.le_trans (List.length_filter_le _ _) (by simp)
def orF (a b : List Int) : List Int := setF (a ++ b)
def withF (l : List Int) (n : Int) : List Int := if n ∈ l then l else l.filter (fun x => decide (x < n)) ++ n :: l.filter (fun x => decide (n < x))
theorem with_spec {l : List Int} (h : l.Pairwise (· < ·)) (n : Int) : (withF l n).Pairwise (· < ·) ∧ ∀ x, x ∈ withF l n ↔ x ∈ l ∨ x = n := by
 unfold withF
 by_cases hn : n ∈ l
 ·rw [if_pos hn]
  exact ⟨h, fun x => ⟨.inl, fun h => h.elim id (fun e => e ▸ hn)⟩⟩
 ·rw [if_neg hn]
  refine ⟨?_, fun x => ?_⟩
  ·rw [List.pairwise_append, List.pairwise_cons]
   refine ⟨h.filter _, ⟨fun a ha => by simpa using (List.mem_filter.1 ha).2, h.filter _⟩, fun a ha b hb => ?_⟩
   have h1 : a < n := by simpa using (List.mem_filter.1 ha).2
   rcases List.mem_cons.1 hb with rfl | hb
   ·exact h1
   ·have : n < b := by simpa using (List.mem_filter.1 hb).2
    omega
  ·simp only [List.mem_append, List.mem_cons, List.mem_filter, decide_eq_true_eq]
   constructor
   ·rintro (⟨h, _⟩ | rfl | ⟨h, _⟩)
    ·exact .inl h
    ·exact .inr rfl
    ·exact .inl h
   ·rintro (hx | rfl)
    ·have : x ≠ n := fun e => hn (e ▸ hx)
     by_cases h2 : x < n
     ·exact .inl ⟨hx, h2⟩
     ·exact .inr (.inr ⟨hx, by omega⟩)
    ·exact .inr (.inl rfl)
end Go.Proofs.YtlhmdgaohonpbaaGreatDoor

namespace Go.Proofs.YtlhmdgaohonpbaaGreatDoor
open Go.RowKit Go.Proofs.YtlhmdgaohonpbaaGreatDoor.MapRaw Go.ChangeMaps
def jJ : ByteArray := ⟨#[106, 111, 98]⟩
def jA : ByteArray := ⟨#[97]⟩
def jB : ByteArray := ⟨#[98]⟩
def jC : ByteArray := ⟨#[99]⟩
def jAB : ByteArray := ⟨#[97, 124, 98]⟩
def jobL (s : ByteArray) : List Lb := [⟨jJ, s⟩]
def mX : Mt := ⟨3, jJ, jAB⟩
def jI1 : Ix := addI ix0 7 (jobL jA)
def jI2 : Ix := addI jI1 5 (jobL jB)
theorem job_right {s : ByteArray} (h : Lib.validD s.data.toList = true) (hs : s = jA ∨ s = jB ∨ s = jC) : rightF (jobL s) = 0 := by
 have h1 : wrongF ⟨jJ, s⟩ false = 0 := by
  have hn : namedF jJ = true := by decide
  have hv : valuedF s = true := by
   unfold valuedF
   rw [h]
   rcases hs with rfl | rfl | rfl <;> decide
  unfold wrongF
  rw [hn, hv]
  rcases hs with rfl | rfl | rfl <;> decide
 have : ¬ 16 < (jobL s).length := by simp [jobL]
 unfold rightF
 rw [if_neg this]
 unfold jobL rightFrom
 rw [h1]
 rfl
theorem rightA : rightF (jobL jA) = 0 := job_right (by decide) (.inl rfl)
theorem rightB : rightF (jobL jB) = 0 := job_right (by decide) (.inr (.inl rfl))
theorem rightC : rightF (jobL jC) = 0 := job_right (by decide) (.inr (.inr rfl))
theorem printAB : printF (jobL jA) ≠ printF (jobL jB) := fun h => by
 have := print_inj rightA rightB h
 exact absurd this (by decide)
theorem job_add1 : addErr ix0 7 (jobL jA) = 0 := by
 unfold addErr
 rw [if_neg (by simp [rightA]), if_neg (by simp [ix0, mget]), if_neg (by simp [ix0])]
theorem job_add2 : addErr jI1 5 (jobL jB) = 0 := by
 unfold addErr
 have h1 : mget jI1.all 5 = none := by rfl
 have h2 : mget jI1.refs (printF (jobL jB)) = none := by
  show mget (mput ix0.refs (printF (jobL jA)) 7) (printF (jobL jB)) = none
  rw [mget_put, if_neg printAB]; rfl
 rw [if_neg (by simp [rightB]), if_neg (by simp [h1, h2]), if_neg (by decide)]
theorem job_add3 : addErr jI2 7 (jobL jC) = 100 := by
 unfold addErr
 have h1 : mget jI2.all 7 = some (jobL jA) := by rfl
 rw [if_neg (by simp [rightC]), if_pos (by simp [h1])]
theorem jI1_ok : IxOk jI1 := IxOk.start.add rightA rfl rfl
theorem jI2_ok : IxOk jI2 := jI1_ok.add rightB rfl (by
 show mget (mput ix0.refs (printF (jobL jA)) 7) (printF (jobL jB)) = none
 rw [mget_put, if_neg printAB]; rfl)
theorem mX_ready : readyE [mX] = 0 := by kernel_rfl
theorem mX_pass : passL [mX] (jobL jA) = true ∧ passL [mX] (jobL jB) = true := ⟨by kernel_rfl, by kernel_rfl⟩
theorem job_select : selectF jI2 [mX] = [5, 7] := by
 have h : selL jI2 [mX] = [7, 5] := by
  unfold selL
  show (([(7, jobL jA), (5, jobL jB)] : List (Int × List Lb)).filter fun p => passL [mX] p.2).map (·.1) = [7, 5]
  rw [List.filter_cons, if_pos mX_pass.1, List.filter_cons, if_pos mX_pass.2]
  rfl
 unfold selectF
 rw [h]
 exact sorted_is (List.Perm.swap 5 7 []) (by decide)
theorem job_or : orF [2, 1] [2] = [1, 2] := by
 unfold orF
 refine strict_ext (set_strict _) (by decide) (fun x => ?_)
 rw [mem_set]
 simp
 omega
theorem job_len : jI2.all.length = 2 := rfl
end Go.Proofs.YtlhmdgaohonpbaaGreatDoor

namespace Go.Proofs.YtlhmdgaohonpbaaGreatDoor
open Go.RowKit Go.Proofs.YtlhmdgaohonpbaaGreatDoor.MapRaw Go.ChangeMaps
abbrev Ser := Int × List Lb
def refB10 (r : Int) (p : Ser) : Bool := decide (p.1 = r)
def labB10 (q : List Lb) (p : Ser) : Bool := decide (p.2 = q)
theorem mdel_idx (m : List Ser) (r : Int) : mdel m r = match m.findIdx? (refB10 r) with | none => m | some i => m.take i ++ m.drop (i + 1) := by
 induction m with
 | nil => rfl
 | cons p m ih =>
  rw [mdel, List.findIdx?_cons]
  unfold refB10 at *
  by_cases h : p.1 = r
  ·rw [if_pos h, decide_eq_true h]; simp
  ·rw [if_neg h, decide_eq_false h, ih]
   cases m.findIdx? (fun p => decide (p.1 = r)) <;> simp
theorem place_isSome (m : List Ser) (r : Int) : (m.findIdx? (refB10 r)).isSome = (mget m r).isSome := by
 induction m with
 | nil => rfl
 | cons p m ih =>
  rw [mget, List.findIdx?_cons]
  unfold refB10 at *
  by_cases h : p.1 = r
  ·rw [if_pos h, decide_eq_true h]; rfl
  ·rw [if_neg h, decide_eq_false h, ← ih]
   cases m.findIdx? (fun p => decide (p.1 = r)) <;> rfl
def numL (m : List Ser) (q : List Lb) : Option Int := (m.find? (labB10 q)).map (·.1)
theorem num_ref {I : Ix} (h : IxOk I) (q : List Lb) : refF I q = numL I.all q := by
 unfold refF numL
 cases hf : I.all.find? (labB10 q) with
 | some p =>
  have h1 := List.mem_of_find?_eq_some hf
  have h2 : p.2 = q := by have := List.find?_some hf; unfold labB10 at this; exact of_decide_eq_true this
  have h3 := mget_of_mem h.an h1
  rw [h2] at h3
  rw [if_pos (h.right _ _ h3), h.lab _ _ h3]; rfl
 | none =>
  have hn : ∀ p ∈ I.all, p.2 ≠ q := fun p hp e => by
   have := List.find?_eq_none.1 hf p hp
   unfold labB10 at this
   simp [e] at this
  by_cases hr : rightF q = 0
  ·rw [if_pos hr]
   cases hm : mget I.refs (printF q) with
   | none => rfl
   | some r =>
    obtain ⟨l, g1, g2⟩ := h.ref _ _ hm
    have := print_inj (h.right _ _ g1) hr g2
    subst this
    exact (hn _ (mget_mem g1) rfl).elim
  ·rw [if_neg hr]; rfl
def addY (m : List Ser) (r : Int) (l : List Lb) : Int :=
 if rightF l ≠ 0 then rightF l else if (numL m l).isSome = true ∨ (m.findIdx? (refB10 r)).isSome = true then 100 else if 4096 ≤ m.length then 5 else 0
theorem add_same10 {I : Ix} (h : IxOk I) (r : Int) (l : List Lb) : addErr I r l = addY I.all r l := by
 unfold addErr addY
 by_cases hr : rightF l = 0
 ·have hn := num_ref h l
  unfold refF at hn
  rw [if_pos hr] at hn
  rw [hn, place_isSome]
  simp only [or_comm]
 ·rw [if_pos hr, if_pos hr]
theorem add_all10 {I : Ix} {r : Int} {l : List Lb} (h : addErr I r l = 0) : rightF l = 0 ∧ mget I.all r = none ∧ mget I.refs (printF l) = none ∧ (addI I r l).all = I.all ++ [(r, l)] ∧ I.all.length < 4096 := by
 unfold addErr at h
 by_cases h1 : rightF l = 0
 ·rw [if_neg (by simpa using h1)] at h
  by_cases h2 : (mget I.all r).isSome = true ∨ (mget I.refs (printF l)).isSome = true
  ·rw [if_pos h2] at h; cases h
  ·rw [if_neg h2] at h
   have h3 : mget I.all r = none := by cases e : mget I.all r with | none => rfl | some x => exact (h2 (.inl (by rw [e]; rfl))).elim
   have h4 : mget I.refs (printF l) = none := by cases e : mget I.refs (printF l) with | none => rfl | some x => exact (h2 (.inr (by rw [e]; rfl))).elim
   by_cases h5 : 4096 ≤ I.all.length
   ·rw [if_pos h5] at h; cases h
   ·exact ⟨h1, h3, h4, mput_new h3 l, by omega⟩
 ·rw [if_pos h1] at h; exact (h1 h).elim
structure Op10 where
 cut : Bool
 ref : Int
 lab : List Lb
def opI (I : Ix) (o : Op10) : Ix := if o.cut = true then cutI I o.ref else if addErr I o.ref o.lab = 0 then addI I o.ref o.lab else I
theorem opI_ok {I : Ix} (h : IxOk I) (o : Op10) : IxOk (opI I o) := by
 unfold opI
 by_cases hc : o.cut = true
 ·rw [if_pos hc]; exact (h.cut o.ref).1
 ·rw [if_neg hc]
  by_cases ha : addErr I o.ref o.lab = 0
  ·rw [if_pos ha]
   obtain ⟨h1, h2, h3, _⟩ := add_all10 ha
   exact h.add h1 h2 h3
  ·rw [if_neg ha]; exact h
def opY (m : List Ser) (o : Op10) : List Ser := if o.cut = true then mdel m o.ref else if addY m o.ref o.lab = 0 then m ++ [(o.ref, o.lab)] else m
theorem cut_all (I : Ix) (r : Int) : (cutI I r).all = mdel I.all r := by
 unfold cutI
 cases h : mget I.all r with
 | none => exact (mdel_none h).symm
 | some l => rfl
theorem op_all {I : Ix} (h : IxOk I) (o : Op10) : (opI I o).all = opY I.all o := by
 unfold opI opY
 by_cases hc : o.cut = true
 ·rw [if_pos hc, if_pos hc]; exact cut_all _ _
 ·rw [if_neg hc, if_neg hc, ← add_same10 h]
  by_cases ha : addErr I o.ref o.lab = 0
  ·rw [if_pos ha, if_pos ha]; exact (add_all10 ha).2.2.2.1
  ·rw [if_neg ha, if_neg ha]
theorem opY_len (m : List Ser) (o : Op10) : (opY m o).length ≤ m.length + 1 := by
 unfold opY
 split
 ·rw [mdel_idx]
  split
  ·omega
  ·rw [List.length_append, List.length_take, List.length_drop]; omega
 ·split
  ·simp
  ·omega
end Go.Proofs.YtlhmdgaohonpbaaGreatDoor
