import Derived.Test.YtlhmdgaohonpbaaGreatDoorGPi
import Derived.Lib.SlicesCompact
import Derived.Test.YtlhmdgaohonpbaaGreatDoorGNmS
import Derived.Test.YtlhmdgaohonpbaaGreatDoorGBz
import Derived.Sort.OwnSorted
import Derived.Test.YtlhmdgaohonpbaaGreatDoorGRf0
import Derived.LoopN
set_option linter.unusedSimpArgs false
set_option linter.unusedVariables false
set_option linter.unusedSectionVars false
/- plain: texts as sets; the names and values of an index. -/
namespace Go.Proofs.YtlhmdgaohonpbaaGreatDoor
open Go.RowKit Go.Lib Go.Proofs.YtlhmdgaohonpbaaGreatDoor.MapRaw

abbrev S8 := List UInt8
theorem ltS_of {x y : S8} (h : x ≤ y) (hn : y ≠ x) : x < y := (List.le_iff_lt_or_eq.1 h).elim id (fun e => (hn e.symm).elim)
theorem strict_extS {a b : List S8} (ha : a.Pairwise (· < ·)) (hb : b.Pairwise (· < ·)) (h : ∀ x, x ∈ a ↔ x ∈ b) : a = b := by
  have na : a.Nodup := ha.imp (fun h e => by subst e; exact List.lt_irrefl _ h)
  have nb : b.Nodup := hb.imp (fun h e => by subst e; exact List.lt_irrefl _ h)
  exact List.Perm.eq_of_pairwise (fun x y _ _ h1 h2 => (List.lt_irrefl _ (List.lt_trans h1 h2)).elim) ha hb ((List.perm_ext_iff_of_nodup na nb).2 h)
def sortedS (l : List S8) : List S8 := l.mergeSort fun x y => decide (x ≤ y)
theorem sorted_permS (l : List S8) : (sortedS l).Perm l := List.mergeSort_perm _ _
theorem sorted_leS (l : List S8) : (sortedS l).Pairwise (· ≤ ·) := by
  have tr : ∀ x y z : S8, decide (x ≤ y) = true → decide (y ≤ z) = true → decide (x ≤ z) = true := fun x y z h1 h2 => by
    simp only [decide_eq_true_eq] at *; exact List.le_trans h1 h2
  have tot : ∀ x y : S8, (decide (x ≤ y) || decide (y ≤ x)) = true := fun x y => by
    simp only [Bool.or_eq_true, decide_eq_true_eq]; exact List.le_total x y
  exact (List.pairwise_mergeSort tr tot l).imp (fun h => by simpa using h)
theorem upTo_specS (d : Array S8) (hs : ∀ i j, i ≤ j → j < d.size → d[i]! ≤ d[j]!) : ∀ m, m ≤ d.size → (compactUpTo d m).Pairwise (· < ·) ∧ (∀ x, x ∈ compactUpTo d m ↔ ∃ j, j < m ∧ d[j]! = x)
  | 0, _ => by simp [compactUpTo]
  | m + 1, hm => by
    obtain ⟨h1, h2⟩ := upTo_specS d hs m (by omega)
    rw [compactUpTo_succ]
    cases hk : keeps d m with
    | true =>
      rw [if_pos rfl]
      refine ⟨?_, fun x => ?_⟩
      · rw [List.pairwise_append]
        refine ⟨h1, by simp, fun a ha b hb => ?_⟩
        simp at hb
        subst hb
        obtain ⟨j, hj, rfl⟩ := (h2 a).1 ha
        unfold keeps at hk
        have hk2 := of_decide_eq_true hk
        have g1 := hs j (m - 1) (by omega) (by omega)
        have g2 := hs (m - 1) m (by omega) (by omega)
        rcases hk2 with rfl | hk2
        · omega
        · refine ltS_of (List.le_trans g1 g2) (fun e => hk2 ?_)
          rw [← e] at g1
          exact List.le_antisymm g1 g2
      · rw [List.mem_append, h2]
        simp only [List.mem_singleton]
        constructor
        · rintro (⟨j, hj, e⟩ | e)
          · exact ⟨j, by omega, e⟩
          · exact ⟨m, by omega, e.symm⟩
        · rintro ⟨j, hj, e⟩
          by_cases e2 : j = m
          · subst e2; exact .inr e.symm
          · exact .inl ⟨j, by omega, e⟩
    | false =>
      rw [if_neg (by decide), List.append_nil]
      refine ⟨h1, fun x => ?_⟩
      rw [h2]
      unfold keeps at hk
      have hk2 := of_decide_eq_false hk
      have hm0 : m ≠ 0 := fun e => hk2 (.inl e)
      have heq : d[m]! = d[m - 1]! := Classical.byContradiction fun e => hk2 (.inr e)
      constructor
      · rintro ⟨j, hj, e⟩; exact ⟨j, by omega, e⟩
      · rintro ⟨j, hj, e⟩
        by_cases e2 : j = m
        · subst e2; exact ⟨j - 1, by omega, by rw [← heq]; exact e⟩
        · exact ⟨j, by omega, e⟩
theorem compact_specS {zs : List S8} (h : zs.Pairwise (· ≤ ·)) : (compact zs).Pairwise (· < ·) ∧ ∀ x, x ∈ compact zs ↔ x ∈ zs := by
  have hg : ∀ j, j < zs.length → zs.toArray[j]! = zs[j]! := fun j hj => by simp
  obtain ⟨h1, h2⟩ := upTo_specS zs.toArray (fun i j hij hj => by
    have hj' : j < zs.length := by simpa using hj
    rw [hg i (by omega), hg j hj', getElem!_pos zs i (by omega), getElem!_pos zs j hj']
    by_cases e : i = j
    · subst e; exact List.le_refl _
    · exact (List.pairwise_iff_getElem.1 h) i j (by omega) hj' (by omega)) zs.length (by simp)
  refine ⟨h1, fun x => ?_⟩
  unfold compact
  rw [h2, List.mem_iff_getElem]
  constructor
  · rintro ⟨j, hj, e⟩
    rw [hg j hj, getElem!_pos zs j hj] at e
    exact ⟨j, hj, e⟩
  · rintro ⟨j, hj, e⟩
    refine ⟨j, hj, ?_⟩
    rw [hg j hj, getElem!_pos zs j hj]
    exact e
/-- texts, each once, rising -/
def setS (l : List S8) : List S8 := compact (sortedS l)
theorem set_strictS (l : List S8) : (setS l).Pairwise (· < ·) := (compact_specS (sorted_leS l)).1
theorem mem_setS {l : List S8} {x : S8} : x ∈ setS l ↔ x ∈ l := by
  unfold setS
  rw [(compact_specS (sorted_leS l)).2, (sorted_permS l).mem_iff]
theorem compact_lenS (ks : List S8) : (compact ks).length ≤ ks.length := by
  unfold compact compactUpTo
  rw [List.length_map]
  exact Nat.le_trans (List.length_filter_le _ _) (by simp)
/-- the document's -/
def wordF (l : List S8) (n : S8) : List S8 := l.filter (fun x => decide (x < n)) ++ n :: l.filter (fun x => decide (n < x))
theorem word_spec {l : List S8} (h : l.Pairwise (· < ·)) (n : S8) : (wordF l n).Pairwise (· < ·) ∧ ∀ x, x ∈ wordF l n ↔ x ∈ l ∨ x = n := by
  unfold wordF
  refine ⟨?_, fun x => ?_⟩
  · rw [List.pairwise_append, List.pairwise_cons]
    refine ⟨h.filter _, ⟨fun a ha => by simpa using (List.mem_filter.1 ha).2, h.filter _⟩, fun a ha b hb => ?_⟩
    have h1 : a < n := by simpa using (List.mem_filter.1 ha).2
    rcases List.mem_cons.1 hb with rfl | hb
    · exact h1
    · have : n < b := by simpa using (List.mem_filter.1 hb).2
      exact List.lt_trans h1 this
  · simp only [List.mem_append, List.mem_cons, List.mem_filter, decide_eq_true_eq]
    constructor
    · rintro (⟨h, _⟩ | rfl | ⟨h, _⟩)
      · exact .inl h
      · exact .inr rfl
      · exact .inl h
    · rintro (hx | rfl)
      · by_cases e : x = n
        · exact .inr (.inl e)
        · by_cases h2 : x < n
          · exact .inl ⟨hx, h2⟩
          · exact .inr (.inr ⟨hx, ltS_of (List.not_lt.1 h2) e⟩)
      · exact .inr (.inl rfl)
theorem word_len (l : List S8) (n : S8) : (wordF l n).length ≤ 2 * l.length + 1 := by
  unfold wordF
  rw [List.length_append, List.length_cons]
  have h1 := List.length_filter_le (fun x => decide (x < n)) l
  have h2 := List.length_filter_le (fun x => decide (n < x)) l
  omega
def foldW (f : Lb → Bool) (g : Lb → S8) (l : List Lb) (out : List S8) : List S8 := l.foldl (fun out y => if f y = true then wordF out (g y) else out) out
theorem foldW_spec (f : Lb → Bool) (g : Lb → S8) : ∀ (l : List Lb) (out : List S8), out.Pairwise (· < ·) → (foldW f g l out).Pairwise (· < ·) ∧ ∀ x, x ∈ foldW f g l out ↔ x ∈ out ∨ ∃ y ∈ l, f y = true ∧ g y = x
  | [], out, h => ⟨h, fun x => by simp [foldW]⟩
  | n :: l, out, h => by
    have hu : foldW f g (n :: l) out = foldW f g l (if f n = true then wordF out (g n) else out) := rfl
    rw [hu]
    by_cases hf : f n = true
    · obtain ⟨h1, h2⟩ := word_spec h (g n)
      obtain ⟨h3, h4⟩ := foldW_spec f g l _ h1
      rw [if_pos hf]
      refine ⟨h3, fun x => ?_⟩
      rw [h4, h2]
      simp only [List.mem_cons, exists_eq_or_imp]
      constructor
      · rintro ((h | rfl) | h)
        · exact .inl h
        · exact .inr (.inl ⟨hf, rfl⟩)
        · exact .inr (.inr h)
      · rintro (h | ⟨_, h⟩ | h)
        · exact .inl (.inl h)
        · exact .inl (.inr h.symm)
        · exact .inr h
    · obtain ⟨h3, h4⟩ := foldW_spec f g l _ h
      rw [if_neg hf]
      refine ⟨h3, fun x => ?_⟩
      rw [h4]
      simp only [List.mem_cons, exists_eq_or_imp]
      constructor
      · rintro (h | h)
        · exact .inl h
        · exact .inr (.inr h)
      · rintro (h | ⟨h, _⟩ | h)
        · exact .inl h
        · exact (hf h).elim
        · exact .inr h
theorem foldW_append (f : Lb → Bool) (g : Lb → S8) (a b : List Lb) (out : List S8) : foldW f g (a ++ b) out = foldW f g b (foldW f g a out) := by unfold foldW; rw [List.foldl_append]
theorem foldW_take (f : Lb → Bool) (g : Lb → S8) {l : List Lb} {k : Nat} (hk : k < l.length) (out : List S8) : foldW f g (l.take (k + 1)) out = if f l[k] = true then wordF (foldW f g (l.take k) out) (g l[k]) else foldW f g (l.take k) out := by
  rw [List.take_succ_eq_append_getElem hk, foldW_append]
  rfl
/-- all labels of all series -/
def allL (m : List Ser) : List Lb := m.flatMap (·.2)
theorem mem_allL {m : List Ser} {y : Lb} : y ∈ allL m ↔ ∃ p ∈ m, y ∈ p.2 := by unfold allL; rw [List.mem_flatMap]
theorem has_keys {I : Ix} (h : IxOk I) (a : ByteArray × ByteArray) : a ∈ I.has.map (·.1) ↔ ∃ y ∈ allL I.all, (y.n, y.v) = a := by
  constructor
  · intro ha
    have hg : mget I.has a ≠ none := fun e => (mget_none.1 e) ha
    cases hm : mget I.has a with
    | none => exact (hg hm).elim
    | some m =>
      obtain ⟨hne, _⟩ := h.has.at_ a m hm
      obtain ⟨p, hp⟩ : ∃ p, p ∈ m := by
        cases m with
        | nil => exact (hne rfl).elim
        | cons p m => exact ⟨p, List.mem_cons_self ..⟩
      have hk : p.1 ∈ keysH I.has a := by unfold keysH; rw [hm]; exact List.mem_map_of_mem (f := (·.1)) hp
      obtain ⟨l, h1, y, hy, e⟩ := (h.hasr a p.1).1 hk
      exact ⟨y, mem_allL.2 ⟨_, mget_mem h1, hy⟩, e⟩
  · rintro ⟨y, hy, e⟩
    obtain ⟨p, hp, hyp⟩ := mem_allL.1 hy
    have hk := (h.hasr a p.1).2 ⟨p.2, mget_of_mem h.an hp, y, hyp, e⟩
    unfold keysH at hk
    cases hm : mget I.has a with
    | none => rw [hm] at hk; simp at hk
    | some m => exact List.mem_map_of_mem (f := (·.1)) (mget_mem hm)
/-- a text's bytes -/
abbrev by8 (s : ByteArray) : S8 := s.data.toList
theorem names_same {I : Ix} (h : IxOk I) (f : ByteArray → Bool) (g : ByteArray × ByteArray → S8) {ks : List S8} (hk : ks.Perm (((I.has.map (·.1)).filter fun a => f a.1).map g)) :
    setS ks = foldW (fun y => f y.n) (fun y => g (y.n, y.v)) (allL I.all) [] := by
  obtain ⟨h1, h2⟩ := foldW_spec (fun y : Lb => f y.n) (fun y => g (y.n, y.v)) (allL I.all) [] (by simp)
  refine strict_extS (set_strictS ks) h1 (fun x => ?_)
  rw [mem_setS, hk.mem_iff, h2]
  simp only [List.mem_map, List.mem_filter, List.not_mem_nil, false_or]
  constructor
  · rintro ⟨a, ⟨ha, hf⟩, rfl⟩
    obtain ⟨y, hy, e⟩ := (has_keys h a).1 (by simpa using ha)
    subst e
    exact ⟨y, hy, hf, rfl⟩
  · rintro ⟨y, hy, hf, rfl⟩
    exact ⟨(y.n, y.v), ⟨by simpa using (has_keys h (y.n, y.v)).2 ⟨y, hy, rfl⟩, hf⟩, rfl⟩
end Go.Proofs.YtlhmdgaohonpbaaGreatDoor

/- postings.words: texts sorted, each once. -/
namespace Go.Proofs.YtlhmdgaohonpbaaGreatDoor
open Go.RowKit Go.Sort Go.Lib Go.Proofs.YtlhmdgaohonpbaaGreatDoor.MapRaw Go.ChangeMaps

abbrev enc8 (s : S8) : List Value := [encStr s]
abbrev SlS (w : World) (D : Nat → Prop) (v : Value) (l : List S8) : Prop := Slc 1 enc8 w D v l
theorem enc8_len (x : S8) : (enc8 x).length = 1 := rfl
theorem enc8_one (x : S8) : ∀ u ∈ enc8 x, u.oneCell' = true := by intro u hu; simp at hu; subst hu; rfl
theorem flat_enc8 (l : List S8) : l.flatMap enc8 = l.map encStr := by
  induction l with
  | nil => rfl
  | cons x l ih => simp only [List.flatMap_cons, List.map_cons, ih]; rfl
theorem info_str : (Tryz.prog.info? 9).map (fun i => (i.zero, i.size, i.bytes)) = some (some (.string ⟨#[]⟩), 1, 16) := by kernel_rfl
theorem sort_own8 {base n : Nat} {v : Value} {ks : List S8} (w : World) (h : w.ownsRow base 9 1 v n (ks.flatMap enc8)) (hn : n = ks.length) (hl : ks.length < 4611686018427387904) :
    Calls Tryz.prog 75 #[v] w fun e w' => e = .returned (.tuple #[]) ∧ w'.ownsRow base 9 1 v n ((sortedS ks).flatMap enc8) ∧ w.grownBy w' v.ownBlock := by
  subst hn
  rw [flat_enc8] at h
  rw [flat_enc8]
  rcases h.2 with ⟨rfl, h0⟩ | ⟨g, cap, cur, rfl, hbase, hb, h1, h2, h3, h4⟩
  · have hk : ks = [] := List.eq_nil_of_length_eq_zero h0
    subst hk
    refine (Tryz.slices_Sort_string_none none 0 w).mono ?_
    rintro e w' ⟨rfl, rfl⟩
    have e : sortedS [] = [] := by unfold sortedS; simp
    rw [e]
    exact ⟨rfl, h, World.grownBy.refl _ _⟩
  · have hH := holds_of_block (ss := ks) hb (by simpa using h4)
    refine (Tryz.slices_Sort_string g 0 cap ks w hH (Array.getElem?_eq_some_iff.1 hb).1 hl).mono ?_
    rintro e w' ⟨rfl, m, os, rfl⟩
    exact ⟨rfl, ownsRow_sorted (by rw [List.length_mergeSort]) hbase hb h1 h2 (by simpa using h3), grownBy_sorted _⟩
theorem own_cut8 {w : World} {base g n cap k : Nat} {e : TypeId} {xs : List Value} (h : w.ownsRow base e 1 (.slice (some ⟨g, 0, none⟩) n cap) n xs) (hk : k ≤ n) : w.ownsRow base e 1 (.slice (some ⟨g, 0, none⟩) k cap) k (xs.take k) := by
  obtain ⟨h0, h⟩ := h
  refine ⟨by simp at h0 ⊢; omega, ?_⟩
  rcases h with ⟨h, _⟩ | ⟨g', cap', cur, e1, hb, h1, h2, h3, h4, h5⟩
  · cases h
  · simp only [Value.slice.injEq, Option.some.injEq, Addr.mk.injEq] at e1
    obtain ⟨⟨rfl, -⟩, -, hc⟩ := e1
    have hc2 : cap' = cap := by omega
    subst hc2
    refine .inr ⟨g, cap', cur, rfl, hb, h1, by omega, h3, h4, ?_⟩
    rw [← h5, List.take_take]
    congr 1
    omega
theorem compact_own8 {base n : Nat} {v : Value} {ks : List S8} (w : World) (h : w.ownsRow base 9 1 v n (ks.flatMap enc8)) (hn : n = ks.length) (hl : ks.length < 4611686018427387904) :
    Calls Tryz.prog 76 #[v] w fun e w' => ∃ v', e = .returned v' ∧ w'.ownsRow base 9 1 v' (Lib.compact ks).length ((Lib.compact ks).flatMap enc8) ∧ w.grownBy w' v.ownBlock := by
  subst hn
  rw [flat_enc8] at h
  rcases h.2 with ⟨rfl, h0⟩ | ⟨g, cap, cur, rfl, hbase, hb, h1, h2, h3, h4⟩
  · have hk : ks = [] := List.eq_nil_of_length_eq_zero h0
    subst hk
    refine (Tryz.slices_Compact_string_empty none 0 w).mono ?_
    rintro e w' ⟨rfl, rfl⟩
    exact ⟨_, rfl, h, World.grownBy.refl _ _⟩
  · have hH := holds_of_block (ss := ks) hb (by simpa using h4)
    refine (Tryz.slices_Compact_string g 0 cap ks w hH (by omega) h1).mono ?_
    rintro e w' ⟨rfl, q, rfl⟩
    have hcl := compact_lenS ks
    have hT : (Lib.compact ks ++ List.replicate (ks.length - (Lib.compact ks).length) []).length = ks.length := by simp; omega
    have hO := ownsRow_sorted (n := q) (os := #[]) hT hbase hb h1 h2 (by simpa using h3)
    have hG := grownBy_sorted (w := w) (g := g) (n := q) (os := #[]) (Lib.compact ks ++ List.replicate (ks.length - (Lib.compact ks).length) []).toArray
    have hgr : ∀ W : World, grow W #[] = W := fun W => by simp [grow]
    rw [hgr] at hO hG
    have hc := own_cut8 hO hcl
    rw [List.map_append, List.take_left' (by simp)] at hc
    rw [flat_enc8]
    exact ⟨_, rfl, hc, hG⟩
set_option maxRecDepth 100000 in
set_option maxHeartbeats 400000 in
theorem post_words {base : Nat} {v : Value} {ks : List S8} (w : World) (h : w.ownsRow base 9 1 v ks.length (ks.flatMap enc8)) (hl : ks.length ≤ 1000000) :
    Calls Tryz.prog 52 #[v] w fun e w' => ∃ v', e = .returned v' ∧ w'.ownsRow base 9 1 v' (setS ks).length ((setS ks).flatMap enc8) ∧ ∀ B, B ≤ base → B ≤ w.heap.size → Below B w w' := by
  have hs := sort_own8 w h rfl (by omega)
  have hk := ownsRow_blk h
  have HS := Lib.hid hs
  have HK := Lib.hid hk
  have HL := Lib.hid hl
  obtain ⟨A, c, rfl⟩ := own_slice h
  have Hn : Hid (∃ n, n = ks.length) := Lib.hid ⟨_, rfl⟩
  generalize hnl : ks.length = nl at *
  have HN := Lib.hid hnl
  clear hs hk h hl hnl
  go_enter Tryz.func52, Tryz.ntmps52
  go_wp2_with fail
  refine HS.out.mono ?_
  rintro e w2 ⟨rfl, ho2, hg2⟩
  have hcp := compact_own8 w2 ho2 (by rw [(sorted_permS ks).length_eq]; exact HN.out.symm) (by rw [(sorted_permS ks).length_eq]; have := HL.out; have := HN.out; omega)
  have HCp := Lib.hid hcp
  have HG2 := Lib.hid hg2
  clear hcp ho2 hg2
  go_wp2_with fail
  refine HCp.out.mono ?_
  rintro e w3 ⟨v3, rfl, ho3, hg3⟩
  have HO3 := Lib.hid ho3
  have HG3 := Lib.hid hg3
  clear ho3 hg3
  go_wp2_with fail
  go_ret
  refine ⟨_, rfl, HO3.out, fun B hB hBw => ?_⟩
  have h2 : Below B w w2 := (Below.refl B w).grown HG2.out hBw (fun k hk => Nat.le_trans hB (HK.out k hk).1)
  exact h2.grown HG3.out (Nat.le_trans hBw HG2.out.size) (fun k hk => Nat.le_trans hB (HK.out k hk).1)
end Go.Proofs.YtlhmdgaohonpbaaGreatDoor

/- postings.Index.Names, Values. -/
namespace Go.Proofs.YtlhmdgaohonpbaaGreatDoor
open Go.RowKit Go.Proofs.YtlhmdgaohonpbaaGreatDoor.MapRaw Go.ChangeMaps

/-- where a loop of Names stands -/
structure NmTo (w2 : World) (b r base : Nat) (f : ByteArray → Bool) (g : ByteArray × ByteArray → S8) (inner left : List ((ByteArray × ByteArray) × Nat)) (vo : Value) (ks : List S8) (wr : World) : Prop where
  own : wr.ownsRow base 9 1 vo ks.length (ks.flatMap enc8)
  perm : (ks ++ ((left.map (·.1)).filter fun a => f a.1).map g).Perm (((inner.map (·.1)).filter fun a => f a.1).map g)
  it : IterAt wr ekPair evM r b inner left
  below : Below w2.heap.size w2 wr
  le : b < w2.heap.size ∧ w2.heap.size ≤ r ∧ r < base ∧ base ≤ wr.heap.size
theorem NmTo.len {w2 wr : World} {b r base : Nat} {f : ByteArray → Bool} {g : ByteArray × ByteArray → S8} {inner left : List ((ByteArray × ByteArray) × Nat)} {vo : Value} {ks : List S8} (h : NmTo w2 b r base f g inner left vo ks wr) : ks.length ≤ inner.length := by
  have h1 := h.perm.length_eq
  rw [List.length_append, List.length_map, List.length_map] at h1
  have h2 := List.length_filter_le (fun a : ByteArray × ByteArray => f a.1) (inner.map (·.1))
  rw [List.length_map] at h2
  omega
theorem NmTo.step {w2 wr w' W6 : World} {b r base : Nat} {f : ByteArray → Bool} {g : ByteArray × ByteArray → S8} {inner left left' : List ((ByteArray × ByteArray) × Nat)} {vo v6 : Value} {ks ks' : List S8} {p : (ByteArray × ByteArray) × Nat} (h : NmTo w2 b r base f g inner left vo ks wr) (hpm : left.Perm (p :: left')) (hit : IterAt w' ekPair evM r b inner left') (hg : wr.grownBy w' (some r)) (hW : Below base w' W6) (hks : ks' = ks ++ if f p.1.1 = true then [g p.1] else []) (ho : W6.ownsRow base 9 1 v6 ks'.length (ks'.flatMap enc8)) : NmTo w2 b r base f g inner left' v6 ks' W6 := by
  obtain ⟨l1, l2, l3, l4⟩ := h.le
  have hgs := hg.size
  have hib := hit.blk
  refine ⟨ho, ?_, hit.move (hW.block _ (by omega)) (hW.block _ (by omega)) (fun _ _ _ h => h), ?_, l1, l2, l3, by have := hW.size; omega⟩
  · refine List.Perm.trans ?_ h.perm
    have h2 : (((left.map (·.1)).filter fun a => f a.1).map g).Perm ((((p :: left').map (·.1)).filter fun a => f a.1).map g) := ((hpm.map _).filter _).map _
    refine List.Perm.trans ?_ ((List.Perm.append_left ks h2).symm)
    rw [hks, List.map_cons, List.filter_cons]
    by_cases hf : f p.1.1 = true
    · rw [if_pos hf, if_pos hf]; simp
    · rw [if_neg hf, if_neg hf]; simp
  · have h1 : Below w2.heap.size w2 w' := h.below.grown hg h.below.size (fun k hk => by injection hk; omega)
    exact h1.trans (hW.mono (by omega))
theorem NmTo.own' {w2 wr w' : World} {b r base : Nat} {f : ByteArray → Bool} {g : ByteArray × ByteArray → S8} {inner left : List ((ByteArray × ByteArray) × Nat)} {vo : Value} {ks : List S8} (h : NmTo w2 b r base f g inner left vo ks wr) (hg : wr.grownBy w' (some r)) : w'.ownsRow base 9 1 vo ks.length (ks.flatMap enc8) :=
  ownsRow_move h.own (fun k hk => hg.block k (ownsRow_blk h.own k hk).2 (fun e => by have := (ownsRow_blk h.own k hk).1; have := h.le.2.2.1; injection e; omega))
def NamePost (w : World) (l : List S8) (e : Ending) (w' : World) : Prop := ∃ v, e = .returned v ∧ SlS w' (fun k => w.heap.size ≤ k) v l ∧ Below w.heap.size w w'
set_option maxRecDepth 100000 in
set_option maxHeartbeats 2000000 in
theorem ix_names {X : List Nat} {xb : Nat} {I : Ix} {ab rb hb : Nat} {inner : List ((ByteArray × ByteArray) × Nat)} (w : World) (h : IxAt w X xb I ab rb hb inner) (hok : IxOk I) (hlen : I.has.length ≤ 1000000) :
    Calls Tryz.prog 20 #[.pointer (some ⟨xb, 0, none⟩)] w (NamePost w (foldW (fun y => (fun _ => true) y.n) (fun y => (fun a => by8 a.1) (y.n, y.v)) (allL I.all) [])) := by
  have c0 := blk_cell h.cells 0
  have c3 := blk_cell h.cells 3
  simp at c0 c3
  have hkeys := h.has.keys
  have hil : inner.length ≤ 1000000 := by have := congrArg List.length hkeys; simp only [List.length_map] at this; omega
  obtain ⟨es, cc, hbk, hM⟩ := h.has.outer
  have hblt : hb < w.heap.size := (Array.getElem?_eq_some_iff.1 hbk).1
  have HFin : Hid (∀ ks : List S8, ks.Perm (((inner.map (·.1)).filter fun a => (fun _ => true) a.1).map (fun a => by8 a.1)) → setS ks = foldW (fun y => (fun _ => true) y.n) (fun y => (fun a => by8 a.1) (y.n, y.v)) (allL I.all) []) := Lib.hid (fun ks hp => names_same hok (fun _ => true) (fun a => by8 a.1) (by rw [hkeys] at hp; exact hp))
  have HM := Lib.hid hM
  have HBk := Lib.hid hbk
  have HBlt := Lib.hid hblt
  generalize foldW (fun y => (fun _ => true) y.n) (fun y => (fun a => by8 a.1) (y.n, y.v)) (allL I.all) [] = res at *
  unfold NamePost
  clear h hok hlen hkeys hM hbk hblt
  go_enter Tryz.func20, Tryz.ntmps20
  go_wp2_with fail
  refine (ix_is _ _ c0).mono ?_
  rintro e w' ⟨rfl, rfl⟩
  go_wp2_with (refine wpList_range_raw rfl _ 73 _ _ rfl Tryz.underlying73 hb HBk.out HM.out rfl ?_)
  intro w5 hit hg5 hs5
  have HStart : Hid (NmTo w hb w.heap.size (w.heap.size + 1) (fun _ => true) (fun a => by8 a.1) inner inner (.slice none 0 0) [] w5) := Lib.hid ⟨⟨rfl, .inl ⟨rfl, rfl⟩⟩, by simp, hit, (Below.refl _ _).grown hg5 (Nat.le_refl _) (fun k hk => by cases hk), HBlt.out, Nat.le_refl _, by omega, by omega⟩
  clear hit hg5 hs5
  go_wp2_with fail
  go_loopg [3] (inner.length) (fun g vo wr => ∃ (left : List ((ByteArray × ByteArray) × Nat)) (ks : List S8), left.length ≤ g ∧ NmTo w hb w.heap.size (w.heap.size + 1) (fun _ => true) (fun a => by8 a.1) inner left vo ks wr)
  case atStart => exact ⟨inner, [], Nat.le_refl _, HStart.out⟩
  case round =>
    obtain ⟨left, ks, hgk, hR⟩ := hrel
    have HR := Lib.hid hR
    have hkl := hR.len
    obtain ⟨Ao, co, rfl⟩ := own_slice hR.own
    clear hR
    go_wp2_with (refine wpList_next_entry rfl _ rfl w.heap.size hb HR.out.it rfl ?hend ?hstep)
    case hend =>
      intro h0
      subst h0
      have hw := post_words wr HR.out.own (by omega)
      have HW := Lib.hid hw
      have hp := HR.out.perm
      simp only [List.map_nil, List.filter_nil, List.append_nil] at hp
      have HP := Lib.hid hp
      clear hw hp
      generalize ks.length = nk at *
      go_wp2_with fail
      refine HW.out.mono ?_
      rintro e w6 ⟨v6, rfl, ho6, hb6⟩
      have HO6 := Lib.hid (own_slc enc8_len rfl ho6)
      have HB6 := Lib.hid (HR.out.below.trans (hb6 w.heap.size (by omega) HR.out.below.size))
      clear ho6 hb6
      go_wp2_with fail
      go_ret
      refine ⟨_, rfl, ?_, HB6.out⟩
      rw [← HFin.out ks HP.out]
      exact HO6.out.mono (fun k _ hk => by omega)
    case hstep =>
      intro pa pb pn left' v' w' hpm hev hit' hg' hs' hentry
      have hen : (Instr.entry (.pointer (some ⟨w.heap.size, 0, none⟩))).run Tryz.prog w' = .ok (.tuple #[.agg #[.string pa, .string pb], v']) w' := hentry
      have hown := HR.out.own' hg'
      have HOw := Lib.hid hown
      have hll : left'.length < left.length := by have := hpm.length_eq; simp at this; omega
      have HSt := Lib.hid fun (W6 : World) (v6 : Value) (ks' : List S8) => HR.out.step (W6 := W6) (v6 := v6) (ks' := ks') hpm hit' hg'
      have hbs : w.heap.size + 1 ≤ w'.heap.size := by have := HR.out.le.2.2.2; have := hg'.size; omega
      have HBs := Lib.hid hbs
      have HBw : Hid (Below w'.heap.size w' (w'.alloc (.cells #[.string pa, .string pb] 84))) := Lib.hid (balloc (Below.refl _ _) _)
      have x0 : (w'.alloc (.cells #[.string pa, .string pb] 84)).cell? ⟨w'.heap.size, 0, none⟩ = some (.string pa) := by simp
      have x1 : (w'.alloc (.cells #[.string pa, .string pb] 84)).cell? ⟨w'.heap.size, 1, none⟩ = some (.string pb) := by simp
      clear hpm hev hit' hg' hs' hentry hown hbs x0 x1
      have HBa : Hid (Below (w'.alloc (.cells #[.string pa, .string pb] 84)).heap.size (w'.alloc (.cells #[.string pa, .string pb] 84)) ((w'.alloc (.cells #[.string pa, .string pb] 84)).alloc (.cells #[.string pa] 9))) := Lib.hid (balloc (Below.refl _ _) _)
      have HB2 := Lib.hid (bthen HBw.out HBa.out)
      have HOa := Lib.hid (own_below HOw.out HB2.out)
      have HSrc : Hid (SrcAt ((w'.alloc (.cells #[.string pa, .string pb] 84)).alloc (.cells #[.string pa] 9)) (.slice (some ⟨w'.heap.size + 1, 0, none⟩) 1 1) 1 1 [.string pa]) := Lib.hid (by
        have h := src_block (m := 1) (size := 1) (blk_new (w'.alloc (.cells #[.string pa, .string pb] 84)) (.cells #[.string pa] 9 (0, 0))) rfl (by intro u hu; simp at hu; subst hu; rfl) 1
        simpa using h)
      go_wp2_with (at_builtin; refine wpList_app (w0 := ((w'.alloc (.cells #[.string pa, .string pb] 84)).alloc (.cells #[.string pa] 9))) (w.heap.size + 1) rfl _ _ 41 9 _ 1 16 1 [.string pa] rfl Tryz.underlying41 info_str rfl (by decide) (by decide) (.slice Ao ks.length co) ks.length (ks.flatMap enc8) ?hs1 ?hx1 HOa.out (Below.refl _ _) (by have := HBs.out; have := HB2.out.size; omega) (by omega) ?_)
      try (case hs1 => rfl)
      case hx1 => exact HSrc.out
      intro v6 w6 hO6 hB6 hg6 hat6
      have hnx := HSt.out w6 v6 (ks ++ [by8 pa]) ((HB2.out.mono HBs.out).trans hB6) (by simp) (by
        have e : ((ks ++ [by8 pa]).flatMap enc8) = ks.flatMap enc8 ++ [.string pa] := by rw [List.flatMap_append]; rfl
        rw [e, List.length_append]; exact hO6)
      have HNx := Lib.hid hnx
      clear hO6 hB6 hg6 hat6 hnx
      go_wp2_with fail
      go_roundg (left'.length)
      case measure => omega
      case rel => exact ⟨left', _, Nat.le_refl _, HNx.out⟩
set_option maxRecDepth 100000 in
set_option maxHeartbeats 2000000 in
theorem ix_values {X : List Nat} {xb : Nat} {I : Ix} {ab rb hb : Nat} {inner : List ((ByteArray × ByteArray) × Nat)} (name : ByteArray) (w : World) (h : IxAt w X xb I ab rb hb inner) (hok : IxOk I) (hlen : I.has.length ≤ 1000000) :
    Calls Tryz.prog 31 #[.pointer (some ⟨xb, 0, none⟩), .string name] w (NamePost w (foldW (fun y => (fun a => a.toList == name.toList) y.n) (fun y => (fun a => by8 a.2) (y.n, y.v)) (allL I.all) [])) := by
  have c0 := blk_cell h.cells 0
  have c3 := blk_cell h.cells 3
  simp at c0 c3
  have hkeys := h.has.keys
  have hil : inner.length ≤ 1000000 := by have := congrArg List.length hkeys; simp only [List.length_map] at this; omega
  obtain ⟨es, cc, hbk, hM⟩ := h.has.outer
  have hblt : hb < w.heap.size := (Array.getElem?_eq_some_iff.1 hbk).1
  have HFin : Hid (∀ ks : List S8, ks.Perm (((inner.map (·.1)).filter fun a => (fun a => a.toList == name.toList) a.1).map (fun a => by8 a.2)) → setS ks = foldW (fun y => (fun a => a.toList == name.toList) y.n) (fun y => (fun a => by8 a.2) (y.n, y.v)) (allL I.all) []) := Lib.hid (fun ks hp => names_same hok (fun a => a.toList == name.toList) (fun a => by8 a.2) (by rw [hkeys] at hp; exact hp))
  have HM := Lib.hid hM
  have HBk := Lib.hid hbk
  have HBlt := Lib.hid hblt
  generalize foldW (fun y => (fun a => a.toList == name.toList) y.n) (fun y => (fun a => by8 a.2) (y.n, y.v)) (allL I.all) [] = res at *
  unfold NamePost
  clear h hok hlen hkeys hM hbk hblt
  go_enter Tryz.func31, Tryz.ntmps31
  go_wp2_with fail
  refine (ix_is _ _ c0).mono ?_
  rintro e w' ⟨rfl, rfl⟩
  go_wp2_with (refine wpList_range_raw rfl _ 73 _ _ rfl Tryz.underlying73 hb HBk.out HM.out rfl ?_)
  intro w5 hit hg5 hs5
  have HStart : Hid (NmTo w hb w.heap.size (w.heap.size + 1) (fun a => a.toList == name.toList) (fun a => by8 a.2) inner inner (.slice none 0 0) [] w5) := Lib.hid ⟨⟨rfl, .inl ⟨rfl, rfl⟩⟩, by simp, hit, (Below.refl _ _).grown hg5 (Nat.le_refl _) (fun k hk => by cases hk), HBlt.out, Nat.le_refl _, by omega, by omega⟩
  clear hit hg5 hs5
  go_wp2_with fail
  go_loopg [5] (inner.length) (fun g vo wr => ∃ (left : List ((ByteArray × ByteArray) × Nat)) (ks : List S8), left.length ≤ g ∧ NmTo w hb w.heap.size (w.heap.size + 1) (fun a => a.toList == name.toList) (fun a => by8 a.2) inner left vo ks wr)
  case atStart => exact ⟨inner, [], Nat.le_refl _, HStart.out⟩
  case round =>
    obtain ⟨left, ks, hgk, hR⟩ := hrel
    have HR := Lib.hid hR
    have hkl := hR.len
    obtain ⟨Ao, co, rfl⟩ := own_slice hR.own
    clear hR
    go_wp2_with (refine wpList_next_entry rfl _ rfl w.heap.size hb HR.out.it rfl ?hend ?hstep)
    case hend =>
      intro h0
      subst h0
      have hw := post_words wr HR.out.own (by omega)
      have HW := Lib.hid hw
      have hp := HR.out.perm
      simp only [List.map_nil, List.filter_nil, List.append_nil] at hp
      have HP := Lib.hid hp
      clear hw hp
      generalize ks.length = nk at *
      go_wp2_with fail
      refine HW.out.mono ?_
      rintro e w6 ⟨v6, rfl, ho6, hb6⟩
      have HO6 := Lib.hid (own_slc enc8_len rfl ho6)
      have HB6 := Lib.hid (HR.out.below.trans (hb6 w.heap.size (by omega) HR.out.below.size))
      clear ho6 hb6
      go_wp2_with fail
      go_ret
      refine ⟨_, rfl, ?_, HB6.out⟩
      rw [← HFin.out ks HP.out]
      exact HO6.out.mono (fun k _ hk => by omega)
    case hstep =>
      intro pa pb pn left' v' w' hpm hev hit' hg' hs' hentry
      have hen : (Instr.entry (.pointer (some ⟨w.heap.size, 0, none⟩))).run Tryz.prog w' = .ok (.tuple #[.agg #[.string pa, .string pb], v']) w' := hentry
      have hown := HR.out.own' hg'
      have HOw := Lib.hid hown
      have hll : left'.length < left.length := by have := hpm.length_eq; simp at this; omega
      have HSt := Lib.hid fun (W6 : World) (v6 : Value) (ks' : List S8) => HR.out.step (W6 := W6) (v6 := v6) (ks' := ks') hpm hit' hg'
      have hbs : w.heap.size + 1 ≤ w'.heap.size := by have := HR.out.le.2.2.2; have := hg'.size; omega
      have HBs := Lib.hid hbs
      have HBw : Hid (Below w'.heap.size w' (w'.alloc (.cells #[.string pa, .string pb] 84))) := Lib.hid (balloc (Below.refl _ _) _)
      have x0 : (w'.alloc (.cells #[.string pa, .string pb] 84)).cell? ⟨w'.heap.size, 0, none⟩ = some (.string pa) := by simp
      have x1 : (w'.alloc (.cells #[.string pa, .string pb] 84)).cell? ⟨w'.heap.size, 1, none⟩ = some (.string pb) := by simp
      clear hpm hev hit' hg' hs' hentry hown hbs x0 x1
      cases hf : (pa.toList == name.toList) with
      | true =>
        have hf2 := Lib.hid hf
        have HBa : Hid (Below (w'.alloc (.cells #[.string pa, .string pb] 84)).heap.size (w'.alloc (.cells #[.string pa, .string pb] 84)) ((w'.alloc (.cells #[.string pa, .string pb] 84)).alloc (.cells #[.string pb] 9))) := Lib.hid (balloc (Below.refl _ _) _)
        have HB2 := Lib.hid (bthen HBw.out HBa.out)
        have HOa := Lib.hid (own_below HOw.out HB2.out)
        have HSrc : Hid (SrcAt ((w'.alloc (.cells #[.string pa, .string pb] 84)).alloc (.cells #[.string pb] 9)) (.slice (some ⟨w'.heap.size + 1, 0, none⟩) 1 1) 1 1 [.string pb]) := Lib.hid (by
          have h := src_block (m := 1) (size := 1) (blk_new (w'.alloc (.cells #[.string pa, .string pb] 84)) (.cells #[.string pb] 9 (0, 0))) rfl (by intro u hu; simp at hu; subst hu; rfl) 1
          simpa using h)
        go_wp2_with (at_builtin; refine wpList_app (w0 := ((w'.alloc (.cells #[.string pa, .string pb] 84)).alloc (.cells #[.string pb] 9))) (w.heap.size + 1) rfl _ _ 41 9 _ 1 16 1 [.string pb] rfl Tryz.underlying41 info_str rfl (by decide) (by decide) (.slice Ao ks.length co) ks.length (ks.flatMap enc8) ?hs1 ?hx1 HOa.out (Below.refl _ _) (by have := HBs.out; have := HB2.out.size; omega) (by omega) ?_)
        try (case hs1 => rfl)
        case hx1 => exact HSrc.out
        intro v6 w6 hO6 hB6 hg6 hat6
        have hnx := HSt.out w6 v6 (ks ++ [by8 pb]) ((HB2.out.mono HBs.out).trans hB6) (by rw [if_pos hf2.out]) (by
          have e : ((ks ++ [by8 pb]).flatMap enc8) = ks.flatMap enc8 ++ [.string pb] := by rw [List.flatMap_append]; rfl
          rw [e, List.length_append]; exact hO6)
        have HNx := Lib.hid hnx
        clear hO6 hB6 hg6 hat6 hnx
        go_wp2_with fail
        go_roundg (left'.length)
        case measure => omega
        case rel => exact ⟨left', _, Nat.le_refl _, HNx.out⟩
      | false =>
        have hf2 : Hid (¬ (pa.toList == name.toList) = true) := Lib.hid (by rw [hf]; decide)
        have hnx := HSt.out _ (.slice Ao ks.length co) ks (HBw.out.mono HBs.out) (by rw [if_neg hf2.out, List.append_nil]) (own_below HOw.out HBw.out)
        have HNx := Lib.hid hnx
        clear hnx
        go_wp2_with fail
        go_roundg (left'.length)
        case measure => omega
        case rel => exact ⟨left', _, Nat.le_refl _, HNx.out⟩
end Go.Proofs.YtlhmdgaohonpbaaGreatDoor
