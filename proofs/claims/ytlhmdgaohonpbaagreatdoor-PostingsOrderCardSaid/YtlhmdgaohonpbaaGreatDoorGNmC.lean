import Derived.Test.YtlhmdgaohonpbaaGreatDoorGNmA
import Derived.Test.YtlhmdgaohonpbaaGreatDoorGYx
import Derived.Sort.Walk0
import Derived.Test.YtlhmdgaohonpbaaGreatDoorGDzB
set_option linter.unusedSimpArgs false
set_option linter.unusedVariables false
set_option linter.unusedSectionVars false
/- the document's word, Names, Values. -/
namespace Go.Proofs.YtlhmdgaohonpbaaGreatDoor
open Go.RowKit Go.Proofs.YtlhmdgaohonpbaaGreatDoor.MapRaw Go.ChangeMaps

theorem by8_of (x : ByteArray) : Value.string x = encStr (by8 x) := rfl
theorem rd8_at {w : World} {A : Option Addr} {l : List S8} (h : Rd 1 enc8 w A l) {k : Nat} (hk : k < l.length) :
    ∃ b off z, A = some ⟨b, off, none⟩ ∧ w.cell? ⟨b, off + k, none⟩ = some (.string z) ∧ by8 z = l[k] := by
  obtain ⟨b, off, e, h⟩ := h k l[k] (List.getElem?_eq_getElem hk)
  refine ⟨b, off, ⟨l[k].toArray⟩, e, ?_, rfl⟩
  have := h 0 _ rfl
  simpa using this
theorem less_by8 (a b : ByteArray) : Op.bytesLess a.toList b.toList = decide (by8 a < by8 b) := by
  rw [Go.Proofs.bytesLess_eq, Lib.toList_data, Lib.toList_data]
theorem more_by8 (z x : ByteArray) : (!Op.bytesLess z.toList x.toList && !z.toList == x.toList) = decide (by8 x < by8 z) := by
  rw [less_by8, Lib.toList_data, Lib.toList_data]
  show (!decide (by8 z < by8 x) && !by8 z == by8 x) = _
  by_cases h : by8 x < by8 z
  · have h1 : ¬ by8 z < by8 x := fun g => List.lt_irrefl _ (List.lt_trans h g)
    have h2 : ¬ by8 z = by8 x := fun e => by rw [e] at h; exact List.lt_irrefl _ h
    have h3 : (by8 z == by8 x) = false := beq_eq_false_iff_ne.2 h2
    rw [decide_eq_true h, decide_eq_false h1, h3]; rfl
  · rw [decide_eq_false h]
    by_cases h2 : by8 z = by8 x
    · simp [h2]
    · have h1 : by8 z < by8 x := ltS_of (List.not_lt.1 h) (fun e => h2 e.symm)
      rw [decide_eq_true h1]; rfl
theorem word_len1 (l : List S8) (n : S8) : (wordF l n).length ≤ l.length + 1 := by
  unfold wordF
  rw [List.length_append, List.length_cons]
  have h : ∀ l : List S8, (l.filter (fun x => decide (x < n))).length + (l.filter (fun x => decide (n < x))).length ≤ l.length := by
    intro l
    induction l with
    | nil => simp
    | cons y l ih =>
      simp only [List.filter_cons]
      by_cases h1 : y < n
      · have h2 : ¬ n < y := fun h => List.lt_irrefl _ (List.lt_trans h1 h)
        simp only [h1, h2, decide_true, decide_false, if_true, List.length_cons, Bool.false_eq_true, if_false]
        omega
      · by_cases h2 : n < y <;> simp only [h1, h2, decide_true, decide_false, if_true, List.length_cons, Bool.false_eq_true, if_false] <;> omega
  have := h l
  omega
theorem foldW_len (f : Lb → Bool) (g : Lb → S8) : ∀ (l : List Lb) (o : List S8), (foldW f g l o).length ≤ o.length + l.length
  | [], o => by simp [foldW]
  | n :: l, o => by
    have hu : foldW f g (n :: l) o = foldW f g l (if f n = true then wordF o (g n) else o) := rfl
    rw [hu]
    have h1 := foldW_len f g l (if f n = true then wordF o (g n) else o)
    have h2 := word_len1 o (g n)
    rw [List.length_cons]
    split at h1
    · rename_i h; rw [if_pos h]; omega
    · rename_i h; rw [if_neg h]; omega
theorem flat_push (l : List S8) (z : ByteArray) : ((l ++ [by8 z]).flatMap enc8) = l.flatMap enc8 ++ [.string z] := by rw [List.flatMap_append]; rfl
set_option maxRecDepth 100000 in
set_option maxHeartbeats 2000000 in
theorem ref10_word {D : Nat → Prop} (v : Value) (l : List S8) (x : ByteArray) (w : World) (hv : SlS w D v l) (hl : l.length ≤ 1000000) :
    Calls Tryz.prog 58 #[v, .string x] w (NamePost w (wordF l (by8 x))) := by
  have HL := Lib.hid hl
  obtain ⟨A, c, rfl, p1, p2, -, -, p5⟩ := hv
  have HRd := Lib.hid fun (W : World) (hW : Below w.heap.size w W) => Rd.below p5 hW
  have hm9 : l.length ≤ 9223372036854775807 := by omega
  unfold NamePost
  obtain ⟨m, hm⟩ : ∃ m, m = l.length := ⟨_, rfl⟩
  have Hm := Lib.hid hm
  rw [← hm] at hm9 ⊢
  clear p1 p2 p5 hm hl
  have HO0 := Lib.hid (World.ownsRow_lit (base := w.heap.size) (e := 9) (size := 1) w #[] 0 (Nat.le_refl _) (by decide) rfl)
  have HBa0 : Hid (Below w.heap.size w (w.alloc (.cells #[] 9))) := Lib.hid (balloc (Below.refl _ _) _)
  go_enter Tryz.func58, Tryz.ntmps58
  go_wp2_with fail
  go_loopw [5, 13] (fun vo i wr => ∃ (k : Nat) (ks : List S8), k ≤ m ∧ i = .int .i64 k ∧ ks = (l.take k).filter (fun y => decide (y < by8 x)) ∧ wr.ownsRow w.heap.size 9 1 vo ks.length (ks.flatMap enc8) ∧ Below w.heap.size w wr) (fun _ i _ => m - (intOf i).toNat)
  case atStart => exact ⟨0, [], Nat.zero_le _, rfl, by simp, by simpa using HO0.out, HBa0.out⟩
  case round =>
    obtain ⟨k, ks, hk, rfl, hks, hown, hB⟩ := hrel
    have HBr := Lib.hid hB
    have HOw := Lib.hid hown
    obtain ⟨Ao, co, rfl⟩ := own_slice hown
    by_cases hlt : k < m
    · have hkl : k < l.length := by rw [← Hm.out]; exact hlt
      obtain ⟨b, off, z, e1, hzc, hz8⟩ := rd8_at (HRd.out wr hB) hkl
      cases e1
      have HNx : Hid ((l.take (k + 1)).filter (fun y => decide (y < by8 x)) = ks ++ if (decide (by8 z < by8 x)) = true then [by8 z] else []) := Lib.hid (by
        rw [List.take_succ_eq_append_getElem hkl, List.filter_append, hks, ← hz8]
        simp only [List.append_assoc, List.filter_cons, List.filter_nil])
      have HLk : Hid (ks.length ≤ 3000000) := Lib.hid (by
        rw [hks]
        have h1 := List.length_filter_le (fun y => decide (y < by8 x)) (l.take k)
        have h2 : (l.take k).length ≤ l.length := by simp [List.length_take]; omega
        have := HL.out
        omega)
      have hd : ∃ bz, decide (by8 z < by8 x) = bz := ⟨_, rfl⟩
      obtain ⟨bz, hd⟩ := hd
      rw [hd] at HNx
      have hbl : Op.bytesLess z.toList x.toList = bz := by rw [less_by8]; exact hd
      clear hown hks hB hd hz8
      cases bz with
      | false =>
        have HN2 : Hid (ks = (l.take (k + 1)).filter (fun y => decide (y < by8 x))) := Lib.hid (by rw [HNx.out]; simp)
        go_wp2_with fail
        go_roundw
        case rel => exact ⟨k + 1, ks, by omega, by go_num, HN2.out, HOw.out, HBr.out⟩
        case measure => simp [intOf] <;> omega
      | true =>
        have HN2 : Hid (ks ++ [by8 z] = (l.take (k + 1)).filter (fun y => decide (y < by8 x))) := Lib.hid (by rw [HNx.out]; simp)
        have HBa : Hid (Below wr.heap.size wr (wr.alloc (.cells #[.string z] 9))) := Lib.hid (balloc (Below.refl _ _) _)
        have HOa := Lib.hid (own_below HOw.out HBa.out)
        have HSrc : Hid (SrcAt (wr.alloc (.cells #[.string z] 9)) (.slice (some ⟨wr.heap.size, 0, none⟩) 1 1) 1 1 [.string z]) := Lib.hid (src_block (m := 1) (size := 1) (blk_new wr (.cells #[.string z] 9 (0, 0))) rfl (by intro u hu; simp at hu; subst hu; rfl) 1)
        go_wp2_with (at_builtin; refine wpList_app (w0 := w) w.heap.size rfl _ _ 41 9 _ 1 16 1 [.string z] rfl Tryz.underlying41 info_str rfl (by decide) (by decide) (.slice Ao ks.length co) ks.length (ks.flatMap enc8) ?hs1 ?hx1 HOa.out (HBr.out.trans (HBa.out.mono HBr.out.size)) (by have := HBr.out.size; simp; omega) (by have := HLk.out; omega) ?_)
        try (case hs1 => rfl)
        case hx1 => exact HSrc.out
        intro v3 w6 hO3 hB3 hg3 hat3
        have ho3 : w6.ownsRow w.heap.size 9 1 v3 (ks ++ [by8 z]).length ((ks ++ [by8 z]).flatMap enc8) := by rw [flat_push, List.length_append]; exact hO3
        have HO3 := Lib.hid ho3
        have HB3 := Lib.hid hB3
        clear hO3 hB3 hg3 hat3 ho3
        go_wp2_with fail
        go_roundw
        case rel => exact ⟨k + 1, ks ++ [by8 z], by omega, by go_num, HN2.out, HO3.out, HB3.out⟩
        case measure => simp [intOf] <;> omega
    · have htk : l.take k = l := List.take_of_length_le (by rw [← Hm.out]; omega)
      rw [htk] at hks
      have HKe := Lib.hid hks
      clear hown hks hB htk
      have HLk : Hid (ks.length ≤ 1000000) := Lib.hid (by rw [HKe.out]; exact Nat.le_trans (List.length_filter_le _ _) HL.out)
      have HBa : Hid (Below wr.heap.size wr (wr.alloc (.cells #[.string x] 9))) := Lib.hid (balloc (Below.refl _ _) _)
      have HOa := Lib.hid (own_below HOw.out HBa.out)
      have HSrc : Hid (SrcAt (wr.alloc (.cells #[.string x] 9)) (.slice (some ⟨wr.heap.size, 0, none⟩) 1 1) 1 1 [.string x]) := Lib.hid (src_block (m := 1) (size := 1) (blk_new wr (.cells #[.string x] 9 (0, 0))) rfl (by intro u hu; simp at hu; subst hu; rfl) 1)
      go_wp2_with (at_builtin; refine wpList_app (w0 := w) w.heap.size rfl _ _ 41 9 _ 1 16 1 [.string x] rfl Tryz.underlying41 info_str rfl (by decide) (by decide) (.slice Ao ks.length co) ks.length (ks.flatMap enc8) ?hs2 ?hx2 HOa.out (HBr.out.trans (HBa.out.mono HBr.out.size)) (by have := HBr.out.size; simp; omega) (by have := HLk.out; omega) ?_)
      try (case hs2 => rfl)
      case hx2 => exact HSrc.out
      intro v3 w6 hO3 hB3 hg3 hat3
      have ho3 : w6.ownsRow w.heap.size 9 1 v3 (ks ++ [by8 x]).length ((ks ++ [by8 x]).flatMap enc8) := by rw [flat_push, List.length_append]; exact hO3
      have HO3 := Lib.hid ho3
      have HB3 := Lib.hid hB3
      clear hO3 hB3 hg3 hat3 ho3
      clear HOa HSrc HBa HLk HOw HBr
      go_wp2_with fail
      go_loopw [5, 31] (fun vo i wr => ∃ (k : Nat) (ks : List S8), k ≤ m ∧ i = .int .i64 k ∧ ks = (l.filter (fun y => decide (y < by8 x)) ++ [by8 x]) ++ (l.take k).filter (fun y => decide (by8 x < y)) ∧ wr.ownsRow w.heap.size 9 1 vo ks.length (ks.flatMap enc8) ∧ Below w.heap.size w wr) (fun _ i _ => m - (intOf i).toNat)
      case atStart => exact ⟨0, l.filter (fun y => decide (y < by8 x)) ++ [by8 x], Nat.zero_le _, rfl, by simp, by have h := HO3.out; rw [HKe.out] at h; exact h, HB3.out⟩
      case round =>
        obtain ⟨k, ks, hk, rfl, hks, hown, hB⟩ := hrel
        have HBr := Lib.hid hB
        have HOw := Lib.hid hown
        obtain ⟨Ao, co, rfl⟩ := own_slice hown
        by_cases hlt : k < m
        · have hkl : k < l.length := by rw [← Hm.out]; exact hlt
          obtain ⟨b, off, z, e1, hzc, hz8⟩ := rd8_at (HRd.out wr hB) hkl
          cases e1
          have HNx : Hid ((l.filter (fun y => decide (y < by8 x)) ++ [by8 x]) ++ (l.take (k + 1)).filter (fun y => decide (by8 x < y)) = ks ++ if (decide (by8 x < by8 z)) = true then [by8 z] else []) := Lib.hid (by
            rw [List.take_succ_eq_append_getElem hkl, List.filter_append, hks, ← hz8]
            simp only [List.append_assoc, List.filter_cons, List.filter_nil])
          have HLk : Hid (ks.length ≤ 3000000) := Lib.hid (by
            rw [hks]
            have h1 := List.length_filter_le (fun y => decide (by8 x < y)) (l.take k)
            have h2 : (l.take k).length ≤ l.length := by simp [List.length_take]; omega
            have := HL.out
            rw [List.length_append, List.length_append, List.length_singleton]
            have h3 := List.length_filter_le (fun y => decide (y < by8 x)) l
            omega)
          have hd : ∃ bz, decide (by8 x < by8 z) = bz := ⟨_, rfl⟩
          obtain ⟨bz, hd⟩ := hd
          rw [hd] at HNx
          have hbl : (!Op.bytesLess z.toList x.toList && !z.toList == x.toList) = bz := by rw [more_by8]; exact hd
          clear hown hks hB hd hz8
          cases bz with
          | false =>
            have HN2 : Hid (ks = (l.filter (fun y => decide (y < by8 x)) ++ [by8 x]) ++ (l.take (k + 1)).filter (fun y => decide (by8 x < y))) := Lib.hid (by rw [HNx.out]; simp)
            go_wp2_with fail
            go_roundw
            case rel => exact ⟨k + 1, ks, by omega, by go_num, HN2.out, HOw.out, HBr.out⟩
            case measure => simp [intOf] <;> omega
          | true =>
            have HN2 : Hid (ks ++ [by8 z] = (l.filter (fun y => decide (y < by8 x)) ++ [by8 x]) ++ (l.take (k + 1)).filter (fun y => decide (by8 x < y))) := Lib.hid (by rw [HNx.out]; simp)
            have HBa : Hid (Below wr.heap.size wr (wr.alloc (.cells #[.string z] 9))) := Lib.hid (balloc (Below.refl _ _) _)
            have HOa := Lib.hid (own_below HOw.out HBa.out)
            have HSrc : Hid (SrcAt (wr.alloc (.cells #[.string z] 9)) (.slice (some ⟨wr.heap.size, 0, none⟩) 1 1) 1 1 [.string z]) := Lib.hid (src_block (m := 1) (size := 1) (blk_new wr (.cells #[.string z] 9 (0, 0))) rfl (by intro u hu; simp at hu; subst hu; rfl) 1)
            go_wp2_with (at_builtin; refine wpList_app (w0 := w) w.heap.size rfl _ _ 41 9 _ 1 16 1 [.string z] rfl Tryz.underlying41 info_str rfl (by decide) (by decide) (.slice Ao ks.length co) ks.length (ks.flatMap enc8) ?hs3 ?hx3 HOa.out (HBr.out.trans (HBa.out.mono HBr.out.size)) (by have := HBr.out.size; simp; omega) (by have := HLk.out; omega) ?_)
            try (case hs3 => rfl)
            case hx3 => exact HSrc.out
            intro v3 w6 hO3 hB3 hg3 hat3
            have ho3 : w6.ownsRow w.heap.size 9 1 v3 (ks ++ [by8 z]).length ((ks ++ [by8 z]).flatMap enc8) := by rw [flat_push, List.length_append]; exact hO3
            have HO3 := Lib.hid ho3
            have HB3 := Lib.hid hB3
            clear hO3 hB3 hg3 hat3 ho3
            go_wp2_with fail
            go_roundw
            case rel => exact ⟨k + 1, ks ++ [by8 z], by omega, by go_num, HN2.out, HO3.out, HB3.out⟩
            case measure => simp [intOf] <;> omega
        · have htk : l.take k = l := List.take_of_length_le (by rw [← Hm.out]; omega)
          rw [htk] at hks
          have HKe := Lib.hid hks
          clear hown hks hB htk
          go_wp2_with fail
          go_ret
          refine ⟨_, rfl, ?_, HBr.out⟩
          have ho := HOw.out
          rw [HKe.out] at ho
          have hs := own_slc enc8_len rfl ho
          have e : wordF l (by8 x) = (l.filter (fun y => decide (y < by8 x)) ++ [by8 x]) ++ l.filter (fun y => decide (by8 x < y)) := by unfold wordF; simp
          have hlk : ks.length = ((l.filter (fun y => decide (y < by8 x)) ++ [by8 x]) ++ l.filter (fun y => decide (by8 x < y))).length := by rw [HKe.out]
          rw [e, hlk]
          exact hs
theorem allL_take (l : List Sx) (k : Nat) (hk : k < l.length) : allL ((l.take (k + 1)).map Sx.key) = allL ((l.take k).map Sx.key) ++ l[k].lab := by
  rw [List.take_succ_eq_append_getElem hk, List.map_append]
  unfold allL
  rw [List.flatMap_append]
  simp [Sx.key]
theorem allL_le (l : List Sx) (k : Nat) : (allL ((l.take k).map Sx.key)).length ≤ (allL (l.map Sx.key)).length := by
  have h : allL (l.map Sx.key) = allL ((l.take k).map Sx.key) ++ allL ((l.drop k).map Sx.key) := by
    unfold allL
    rw [← List.flatMap_append, ← List.map_append, List.take_append_drop]
  rw [h, List.length_append]
  omega
set_option maxRecDepth 100000 in
set_option maxHeartbeats 4000000 in
theorem ref10_names {D D' : Nat → Prop} (yb : Nat) (v : Value) (l : List Sx) (w : World) (hc : w.cell? ⟨yb, 0, none⟩ = some v) (hv : Slc 2 Sx.enc w D v l) (hl : SxOk w D' l) (hN : (allL (l.map Sx.key)).length ≤ 100000) :
    Calls Tryz.prog 30 #[.pointer (some ⟨yb, 0, none⟩)] w (NamePost w (foldW (fun y => (fun _ => true) y.n) (fun y => (fun a => by8 a.1) (y.n, y.v)) (allL (l.map Sx.key)) [])) := by
  obtain ⟨A, c, rfl, p1, p2, p3, p4, p5⟩ := hv
  have HR := Lib.hid p5
  have HL := Lib.hid hl
  have hm : l.length ≤ 9223372036854775807 := by simp only [maxLen] at p2; omega
  have HN := Lib.hid hN
  have HAll := Lib.hid fun (k : Nat) (hk : k < l.length) => allL_take l k hk
  unfold NamePost
  obtain ⟨n, hn⟩ : ∃ n, n = l.length := ⟨_, rfl⟩
  have Hn := Lib.hid hn
  rw [← hn] at hm hc
  clear p1 p2 p3 p4 p5 hn hl hN
  go_enter Tryz.func30, Tryz.ntmps30
  go_wp2_with fail
  go_loopw [3, 13] (fun vo i wr => ∃ (k : Nat) (ks : List S8), k ≤ n ∧ i = .int .i64 k ∧ ks = foldW (fun y => (fun _ => true) y.n) (fun y => (fun a => by8 a.1) (y.n, y.v)) (allL ((l.take k).map Sx.key)) [] ∧ SlS wr (fun k => w.heap.size ≤ k) vo ks ∧ Below w.heap.size w wr) (fun _ i _ => n - (intOf i).toNat)
  case atStart => exact ⟨0, [], Nat.zero_le _, rfl, by simp [allL, foldW], Slc.nil _ _ _ _, Below.refl _ _⟩
  case round =>
    obtain ⟨k, ks0, hk, rfl, hks, hS, hB⟩ := hrel
    have HBr := Lib.hid hB
    have HS := Lib.hid hS
    obtain ⟨Ao, co, rfl, -⟩ := hS
    by_cases hlt : k < n
    · have hkl : k < l.length := by rw [← Hn.out]; exact hlt
      obtain ⟨b, off, rfl, z0, z1⟩ := rdSx_at (Rd.below HR.out hB) hkl
      have hx := HL.out _ (List.getElem_mem hkl)
      have hal := HAll.out k hkl
      have hlen : (allL ((l.take k).map Sx.key)).length + l[k].lab.length ≤ 100000 := by
        have h1 := allL_le l (k + 1)
        rw [hal, List.length_append] at h1
        have := HN.out
        omega
      have hk0 := foldW_len (fun y => (fun _ => true) y.n) (fun y => (fun a => by8 a.1) (y.n, y.v)) (allL ((l.take k).map Sx.key)) []
      rw [← hks] at hk0
      simp only [List.length_nil, Nat.zero_add] at hk0
      have HNk : Hid (foldW (fun y => (fun _ => true) y.n) (fun y => (fun a => by8 a.1) (y.n, y.v)) (allL ((l.take (k + 1)).map Sx.key)) [] = foldW (fun y => (fun _ => true) y.n) (fun y => (fun a => by8 a.1) (y.n, y.v)) l[k].lab ks0) := Lib.hid (by rw [hal, foldW_append, ← hks])
      generalize l[k] = x at *
      obtain ⟨xr, lv, lab⟩ := x
      simp only at z0 z1 hx hlen HNk
      have HXr := Lib.hid fun (W : World) (hW : Below w.heap.size w W) => hx.below hW
      obtain ⟨A2, c2, rfl, -⟩ := hx
      have HXl : Hid (∀ W : World, Below w.heap.size w W → RdL W A2 lab) := Lib.hid (fun W hW => by
        obtain ⟨A7, c7, e7, -, -, -, -, h7⟩ := HXr.out W hW
        cases e7; exact h7)
      have hnl9 : lab.length ≤ 100000 := by omega
      have HLen : Hid (ks0.length + lab.length ≤ 100000) := Lib.hid (by omega)
      obtain ⟨nl, hnl⟩ : ∃ nl, nl = lab.length := ⟨_, rfl⟩
      have Hnl := Lib.hid hnl
      rw [← hnl] at hnl9 z1
      have HBw := Lib.hid (bthen hB (balloc (Below.refl wr.heap.size wr) (.cells #[.int .u64 xr, .slice A2 nl c2] 96)))
      have HSw := Lib.hid (HS.out.below (balloc (Below.refl wr.heap.size wr) (.cells #[.int .u64 xr, .slice A2 nl c2] 96)))
      clear hB hks hal hlen hk0 hnl
      generalize hk0l : ks0.length = n0 at *
      have HK0 := Lib.hid hk0l
      clear hk0l
      go_wp2_with fail
      go_loopw [3, 20] (fun vo i wr => ∃ (j : Nat) (ks1 : List S8), j ≤ nl ∧ i = .int .i64 j ∧ ks1 = foldW (fun y => (fun _ => true) y.n) (fun y => (fun a => by8 a.1) (y.n, y.v)) (lab.take j) ks0 ∧ SlS wr (fun k => w.heap.size ≤ k) vo ks1 ∧ Below w.heap.size w wr) (fun _ i _ => nl - (intOf i).toNat)
      case atStart => exact ⟨0, ks0, Nat.zero_le _, rfl, by simp [foldW], HSw.out, HBw.out⟩
      case round =>
        obtain ⟨j, ks1, hj, rfl, hks1, hS1, hB1⟩ := hrel
        have HB1 := Lib.hid hB1
        have HS1 := Lib.hid hS1
        obtain ⟨A1, c1, rfl, -⟩ := hS1
        by_cases hjl : j < nl
        · have hjl2 : j < lab.length := by rw [← Hnl.out]; exact hjl
          obtain ⟨b9, off9, e9, q0, q1⟩ := RdL.at_ (HXl.out _ hB1) hjl2
          cases e9
          have hnx := foldW_take (fun y => (fun _ => true) y.n) (fun y => (fun a => by8 a.1) (y.n, y.v)) hjl2 ks0
          rw [← hks1] at hnx
          have HLk : Hid (ks1.length ≤ 100000) := Lib.hid (by
            rw [hks1]
            have h1 := foldW_len (fun y => (fun _ => true) y.n) (fun y => (fun a => by8 a.1) (y.n, y.v)) (lab.take j) ks0
            have h2 : (lab.take j).length ≤ lab.length := by simp [List.length_take]; omega
            have := HLen.out
            have := HK0.out
            omega)
          generalize lab[j] = y at *
          obtain ⟨yn, yv⟩ := y
          simp only at q0 q1 hnx
          have hbv := balloc (Below.refl _ _) (.cells #[.string yn, .string yv] 80) (w := wr)
          have HBv := Lib.hid (bthen hB1 hbv)
          have HSv := Lib.hid (HS1.out.below hbv)
          clear hks1 hB1 hbv
          have HNx : Hid (foldW (fun y => (fun _ => true) y.n) (fun y => (fun a => by8 a.1) (y.n, y.v)) (lab.take (j + 1)) ks0 = wordF ks1 (by8 yn)) := Lib.hid (by rw [hnx]; simp)
          clear hnx
          go_wp2_with fail
          refine (ref10_word _ ks1 yn _ HSv.out (by have := HLk.out; omega)).mono ?_
          rintro e w5 ⟨v5, rfl, hs5, hb5⟩
          obtain ⟨A5, c5, rfl, -⟩ := id hs5
          have HS5 : Hid (SlS w5 (fun k => w.heap.size ≤ k) (.slice A5 (wordF ks1 (by8 yn)).length c5) (wordF ks1 (by8 yn))) := Lib.hid (hs5.mono (fun k _ hk => Nat.le_trans HBv.out.size hk))
          have HB5 := Lib.hid (bthen HBv.out hb5)
          clear hs5 hb5
          go_wp2_with fail
          go_roundw
          case rel => exact ⟨j + 1, _, by omega, by go_num, HNx.out.symm, HS5.out, HB5.out⟩
          case measure => simp [intOf] <;> omega
        · have htk : lab.take j = lab := List.take_of_length_le (by rw [← Hnl.out]; omega)
          rw [htk] at hks1
          have HKe := Lib.hid hks1
          clear hks1 hB1 htk
          go_wp2_with fail
          go_roundw
          case rel => exact ⟨k + 1, ks1, by omega, by go_num, by rw [HNk.out, HKe.out], HS1.out, HB1.out⟩
          case measure => simp [intOf] <;> omega
    · have htk : l.take k = l := List.take_of_length_le (by rw [← Hn.out]; omega)
      rw [htk] at hks
      have HKe := Lib.hid hks
      clear hks hB htk
      go_wp2_with fail
      go_ret
      refine ⟨_, rfl, ?_, HBr.out⟩
      rw [← HKe.out]
      exact HS.out
set_option maxRecDepth 100000 in
set_option maxHeartbeats 4000000 in
theorem ref10_values {D D' : Nat → Prop} (yb : Nat) (v : Value) (l : List Sx) (name : ByteArray) (w : World) (hc : w.cell? ⟨yb, 0, none⟩ = some v) (hv : Slc 2 Sx.enc w D v l) (hl : SxOk w D' l) (hN : (allL (l.map Sx.key)).length ≤ 100000) :
    Calls Tryz.prog 32 #[.pointer (some ⟨yb, 0, none⟩), .string name] w (NamePost w (foldW (fun y => (fun a => a.toList == name.toList) y.n) (fun y => (fun a => by8 a.2) (y.n, y.v)) (allL (l.map Sx.key)) [])) := by
  obtain ⟨A, c, rfl, p1, p2, p3, p4, p5⟩ := hv
  have HR := Lib.hid p5
  have HL := Lib.hid hl
  have hm : l.length ≤ 9223372036854775807 := by simp only [maxLen] at p2; omega
  have HN := Lib.hid hN
  have HAll := Lib.hid fun (k : Nat) (hk : k < l.length) => allL_take l k hk
  unfold NamePost
  obtain ⟨n, hn⟩ : ∃ n, n = l.length := ⟨_, rfl⟩
  have Hn := Lib.hid hn
  rw [← hn] at hm hc
  clear p1 p2 p3 p4 p5 hn hl hN
  go_enter Tryz.func32, Tryz.ntmps32
  go_wp2_with fail
  go_loopw [5, 15] (fun vo i wr => ∃ (k : Nat) (ks : List S8), k ≤ n ∧ i = .int .i64 k ∧ ks = foldW (fun y => (fun a => a.toList == name.toList) y.n) (fun y => (fun a => by8 a.2) (y.n, y.v)) (allL ((l.take k).map Sx.key)) [] ∧ SlS wr (fun k => w.heap.size ≤ k) vo ks ∧ Below w.heap.size w wr) (fun _ i _ => n - (intOf i).toNat)
  case atStart => exact ⟨0, [], Nat.zero_le _, rfl, by simp [allL, foldW], Slc.nil _ _ _ _, Below.refl _ _⟩
  case round =>
    obtain ⟨k, ks0, hk, rfl, hks, hS, hB⟩ := hrel
    have HBr := Lib.hid hB
    have HS := Lib.hid hS
    obtain ⟨Ao, co, rfl, -⟩ := hS
    by_cases hlt : k < n
    · have hkl : k < l.length := by rw [← Hn.out]; exact hlt
      obtain ⟨b, off, rfl, z0, z1⟩ := rdSx_at (Rd.below HR.out hB) hkl
      have hx := HL.out _ (List.getElem_mem hkl)
      have hal := HAll.out k hkl
      have hlen : (allL ((l.take k).map Sx.key)).length + l[k].lab.length ≤ 100000 := by
        have h1 := allL_le l (k + 1)
        rw [hal, List.length_append] at h1
        have := HN.out
        omega
      have hk0 := foldW_len (fun y => (fun a => a.toList == name.toList) y.n) (fun y => (fun a => by8 a.2) (y.n, y.v)) (allL ((l.take k).map Sx.key)) []
      rw [← hks] at hk0
      simp only [List.length_nil, Nat.zero_add] at hk0
      have HNk : Hid (foldW (fun y => (fun a => a.toList == name.toList) y.n) (fun y => (fun a => by8 a.2) (y.n, y.v)) (allL ((l.take (k + 1)).map Sx.key)) [] = foldW (fun y => (fun a => a.toList == name.toList) y.n) (fun y => (fun a => by8 a.2) (y.n, y.v)) l[k].lab ks0) := Lib.hid (by rw [hal, foldW_append, ← hks])
      generalize l[k] = x at *
      obtain ⟨xr, lv, lab⟩ := x
      simp only at z0 z1 hx hlen HNk
      have HXr := Lib.hid fun (W : World) (hW : Below w.heap.size w W) => hx.below hW
      obtain ⟨A2, c2, rfl, -⟩ := hx
      have HXl : Hid (∀ W : World, Below w.heap.size w W → RdL W A2 lab) := Lib.hid (fun W hW => by
        obtain ⟨A7, c7, e7, -, -, -, -, h7⟩ := HXr.out W hW
        cases e7; exact h7)
      have hnl9 : lab.length ≤ 100000 := by omega
      have HLen : Hid (ks0.length + lab.length ≤ 100000) := Lib.hid (by omega)
      obtain ⟨nl, hnl⟩ : ∃ nl, nl = lab.length := ⟨_, rfl⟩
      have Hnl := Lib.hid hnl
      rw [← hnl] at hnl9 z1
      have HBw := Lib.hid (bthen hB (balloc (Below.refl wr.heap.size wr) (.cells #[.int .u64 xr, .slice A2 nl c2] 96)))
      have HSw := Lib.hid (HS.out.below (balloc (Below.refl wr.heap.size wr) (.cells #[.int .u64 xr, .slice A2 nl c2] 96)))
      clear hB hks hal hlen hk0 hnl
      generalize hk0l : ks0.length = n0 at *
      have HK0 := Lib.hid hk0l
      clear hk0l
      go_wp2_with fail
      go_loopw [5, 22] (fun vo i wr => ∃ (j : Nat) (ks1 : List S8), j ≤ nl ∧ i = .int .i64 j ∧ ks1 = foldW (fun y => (fun a => a.toList == name.toList) y.n) (fun y => (fun a => by8 a.2) (y.n, y.v)) (lab.take j) ks0 ∧ SlS wr (fun k => w.heap.size ≤ k) vo ks1 ∧ Below w.heap.size w wr) (fun _ i _ => nl - (intOf i).toNat)
      case atStart => exact ⟨0, ks0, Nat.zero_le _, rfl, by simp [foldW], HSw.out, HBw.out⟩
      case round =>
        obtain ⟨j, ks1, hj, rfl, hks1, hS1, hB1⟩ := hrel
        have HB1 := Lib.hid hB1
        have HS1 := Lib.hid hS1
        obtain ⟨A1, c1, rfl, -⟩ := hS1
        by_cases hjl : j < nl
        · have hjl2 : j < lab.length := by rw [← Hnl.out]; exact hjl
          obtain ⟨b9, off9, e9, q0, q1⟩ := RdL.at_ (HXl.out _ hB1) hjl2
          cases e9
          have hnx := foldW_take (fun y => (fun a => a.toList == name.toList) y.n) (fun y => (fun a => by8 a.2) (y.n, y.v)) hjl2 ks0
          rw [← hks1] at hnx
          have HLk : Hid (ks1.length ≤ 100000) := Lib.hid (by
            rw [hks1]
            have h1 := foldW_len (fun y => (fun a => a.toList == name.toList) y.n) (fun y => (fun a => by8 a.2) (y.n, y.v)) (lab.take j) ks0
            have h2 : (lab.take j).length ≤ lab.length := by simp [List.length_take]; omega
            have := HLen.out
            have := HK0.out
            omega)
          generalize lab[j] = y at *
          obtain ⟨yn, yv⟩ := y
          simp only at q0 q1 hnx
          have hbv := balloc (Below.refl _ _) (.cells #[.string yn, .string yv] 80) (w := wr)
          have HBv := Lib.hid (bthen hB1 hbv)
          have HSv := Lib.hid (HS1.out.below hbv)
          clear hks1 hB1 hbv
          cases hf : (yn.toList == name.toList) with
          | true =>
            have HNx : Hid (foldW (fun y => (fun a => a.toList == name.toList) y.n) (fun y => (fun a => by8 a.2) (y.n, y.v)) (lab.take (j + 1)) ks0 = wordF ks1 (by8 yv)) := Lib.hid (by rw [hnx, if_pos hf])
            clear hnx
            go_wp2_with fail
            refine (ref10_word _ ks1 yv _ HSv.out (by have := HLk.out; omega)).mono ?_
            rintro e w5 ⟨v5, rfl, hs5, hb5⟩
            obtain ⟨A5, c5, rfl, -⟩ := id hs5
            have HS5 : Hid (SlS w5 (fun k => w.heap.size ≤ k) (.slice A5 (wordF ks1 (by8 yv)).length c5) (wordF ks1 (by8 yv))) := Lib.hid (hs5.mono (fun k _ hk => Nat.le_trans HBv.out.size hk))
            have HB5 := Lib.hid (bthen HBv.out hb5)
            clear hs5 hb5
            go_wp2_with fail
            go_roundw
            case rel => exact ⟨j + 1, _, by omega, by go_num, HNx.out.symm, HS5.out, HB5.out⟩
            case measure => simp [intOf] <;> omega
          | false =>
            have HNx : Hid (foldW (fun y => (fun a => a.toList == name.toList) y.n) (fun y => (fun a => by8 a.2) (y.n, y.v)) (lab.take (j + 1)) ks0 = ks1) := Lib.hid (by rw [hnx, if_neg (by rw [hf]; decide)])
            clear hnx
            go_wp2_with fail
            go_roundw
            case rel => exact ⟨j + 1, ks1, by omega, by go_num, HNx.out.symm, HSv.out, HBv.out⟩
            case measure => simp [intOf] <;> omega
        · have htk : lab.take j = lab := List.take_of_length_le (by rw [← Hnl.out]; omega)
          rw [htk] at hks1
          have HKe := Lib.hid hks1
          clear hks1 hB1 htk
          go_wp2_with fail
          go_roundw
          case rel => exact ⟨k + 1, ks1, by omega, by go_num, by rw [HNk.out, HKe.out], HS1.out, HB1.out⟩
          case measure => simp [intOf] <;> omega
    · have htk : l.take k = l := List.take_of_length_le (by rw [← Hn.out]; omega)
      rw [htk] at hks
      have HKe := Lib.hid hks
      clear hks hB htk
      go_wp2_with fail
      go_ret
      refine ⟨_, rfl, ?_, HBr.out⟩
      rw [← HKe.out]
      exact HS.out
end Go.Proofs.YtlhmdgaohonpbaaGreatDoor

/- the law's words, laid; the law PostingsNames. -/
namespace Go.Proofs.YtlhmdgaohonpbaaGreatDoor
open Go.RowKit Go.Proofs.YtlhmdgaohonpbaaGreatDoor.MapRaw Go.ChangeMaps

set_option maxRecDepth 100000 in
set_option maxHeartbeats 1000000 in
theorem law_words {D D1 : Nat → Prop} (va vb : Value) (la lb : List S8) (w : World) (ha : SlS w D va la) (hb : SlS w D1 vb lb) :
    Calls Tryz.prog 19 #[va, vb] w fun e w' => e = .returned (.bool (decide (la = lb))) ∧ Below w.heap.size w w' := by
  obtain ⟨A, cA, rfl, p1, p2, -, -, p5⟩ := ha
  obtain ⟨B, cB, rfl, q1, q2, -, -, q5⟩ := hb
  have HA := Lib.hid p5
  have HB := Lib.hid q5
  have ha9 : la.length ≤ 9223372036854775807 := by simp only [maxLen] at p2; omega
  have hb9 : lb.length ≤ 9223372036854775807 := by simp only [maxLen] at q2; omega
  clear p1 p2 p5 q1 q2 q5
  by_cases hlen : la.length = lb.length
  · obtain ⟨n, hn⟩ : ∃ n, n = la.length := ⟨_, rfl⟩
    have hn2 : n = lb.length := hn.trans hlen
    rw [← hn, ← hn2]
    have Hn := Lib.hid hn
    have Hn2 := Lib.hid hn2
    have hnb : n ≤ 9223372036854775807 := by omega
    clear hn hn2 ha9 hb9 hlen
    go_enter Tryz.func19, Tryz.ntmps19
    go_wp2_with fail
    go_loopw [13] (fun i wr => ∃ k : Nat, k ≤ n ∧ i = .int .i64 k ∧ la.take k = lb.take k ∧ ∃ m, wr = w.drewN m) (fun i _ => n - (intOf i).toNat)
    case atStart => exact ⟨0, Nat.zero_le _, rfl, rfl, 0, rfl⟩
    case round =>
      obtain ⟨k, hk, rfl, ht, m, rfl⟩ := hrel
      have Ht := Lib.hid ht
      clear ht
      by_cases hlt : k < n
      · obtain ⟨b, off, x, e1, c0, hx8⟩ := rd8_at HA.out (k := k) (by rw [← Hn.out]; exact hlt)
        obtain ⟨b', off', y, e2, c0', hy8⟩ := rd8_at HB.out (k := k) (by rw [← Hn2.out]; exact hlt)
        cases e1; cases e2
        have HNx : Hid (by8 x = by8 y → la.take (k + 1) = lb.take (k + 1)) := Lib.hid (fun h => by
          rw [List.take_succ_eq_append_getElem (by rw [← Hn.out]; exact hlt), List.take_succ_eq_append_getElem (by rw [← Hn2.out]; exact hlt), Ht.out, ← hx8, ← hy8, h])
        have HNe : Hid (¬ by8 x = by8 y → ¬ la = lb) := Lib.hid (fun h e => by
          subst e
          exact h (hx8.trans hy8.symm))
        have hxy : (x.toList == y.toList) = (by8 x == by8 y) := by rw [Lib.toList_data, Lib.toList_data]
        clear hx8 hy8
        by_cases heq : by8 x = by8 y
        · have hd : (x.toList == y.toList) = true := by rw [hxy, beq_iff_eq]; exact heq
          have hd2 : (x.toList != y.toList) = false := by simp only [bne, hd]; rfl
          have HE := Lib.hid (HNx.out heq)
          clear HNx HNe heq hxy
          go_wp2_with fail
          go_quiet (fail)
          go_wp2_with fail
          go_roundw
          case rel => exact ⟨k + 1, by omega, by go_num, HE.out, _, rfl⟩
          case measure => simp [intOf] <;> omega
        · have hd : (x.toList == y.toList) = false := by rw [hxy]; exact beq_eq_false_iff_ne.2 heq
          have hd2 : (x.toList != y.toList) = true := by simp only [bne, hd]; rfl
          have HE := Lib.hid (HNe.out heq)
          clear HNx HNe heq hxy
          go_wp2_with fail
          go_quiet (fail)
          go_wp2_with fail
          go_ret
          exact ⟨ret_bool (by simp [HE.out]), bdr (bdr (Below.refl _ _) _) _⟩
      · go_wp2_with fail
        go_ret
        refine ⟨ret_bool ?_, bdr (Below.refl _ _) _⟩
        have : la = lb := by
          have := Ht.out
          rwa [List.take_of_length_le (by rw [← Hn.out]; omega), List.take_of_length_le (by rw [← Hn2.out]; omega)] at this
        simp [this]
  · have hl0 : ((la.length : Int) == (lb.length : Int)) = false := by simp; omega
    have hl1 : ((la.length : Int) != (lb.length : Int)) = true := by simp; omega
    have hne : ¬ la = lb := fun e => hlen (by rw [e])
    have HD : Hid (decide (la = lb) = false) := Lib.hid (decide_eq_false hne)
    generalize decide (la = lb) = res at *
    generalize la.length = na at *
    generalize lb.length = nb at *
    clear hne hlen HA HB
    go_enter Tryz.func19, Tryz.ntmps19
    go_wp2_with fail
    go_ret
    exact ⟨ret_bool HD.out.symm, Below.refl _ _⟩
/-! ### laid -/
theorem nodup_le {α : Type} [DecidableEq α] : ∀ (a b : List α), a.Nodup → (∀ x ∈ a, x ∈ b) → a.length ≤ b.length
  | [], _, _, _ => Nat.zero_le _
  | x :: a, b, hn, hs => by
    have hx : x ∈ b := hs x (List.mem_cons_self ..)
    rw [List.nodup_cons] at hn
    have h1 := nodup_le a (b.erase x) hn.2 (fun y hy => (List.mem_erase_of_ne (fun e : y = x => hn.1 (e ▸ hy))).2 (hs y (List.mem_cons_of_mem _ hy)))
    rw [List.length_erase_of_mem hx] at h1
    have : 0 < b.length := List.length_pos_of_mem hx
    rw [List.length_cons]; omega
theorem all_small {I : Ix} (h : IxOk I) (hl : I.all.length ≤ 60) : (allL I.all).length ≤ 960 ∧ I.has.length ≤ 960 := by
  have h1 : ∀ m : List Ser, (∀ p ∈ m, p.2.length ≤ 16) → (allL m).length ≤ 16 * m.length := by
    intro m hm
    induction m with
    | nil => simp [allL]
    | cons p m ih =>
      have e : allL (p :: m) = p.2 ++ allL m := rfl
      rw [e, List.length_append, List.length_cons]
      have := hm p (List.mem_cons_self ..)
      have := ih (fun q hq => hm q (List.mem_cons_of_mem _ hq))
      omega
  have h2 := h1 I.all (fun p hp => (right_ok (h.right p.1 p.2 (mget_of_mem h.an hp))).1)
  refine ⟨by omega, ?_⟩
  have h3 := nodup_le (I.has.map (·.1)) ((allL I.all).map fun y => (y.n, y.v)) h.has.nd (fun a ha => by
    obtain ⟨y, hy, e⟩ := (has_keys h a).1 ha
    exact List.mem_map.2 ⟨y, hy, e⟩)
  rw [List.length_map, List.length_map] at h3
  omega
def opsI (l : List OpV) (I : Ix) : Ix := l.foldl (fun I o => opI I o.op) I
theorem opsI_take (l : List OpV) (k : Nat) (hk : k < l.length) (I : Ix) : opsI (l.take (k + 1)) I = opI (opsI (l.take k) I) l[k].op := by
  unfold opsI
  rw [List.take_succ_eq_append_getElem hk, List.foldl_append]; rfl
def LaidPost (w : World) (l : List OpV) (e : Ending) (w' : World) : Prop := ∃ xb yb, e = .returned (.tuple #[.pointer (some ⟨xb, 0, none⟩), .pointer (some ⟨yb, 0, none⟩), .bool true]) ∧ Both w xb yb (opsI l ix0) w' ∧ (opsI l ix0).all.length ≤ l.length
set_option maxRecDepth 100000 in
set_option maxHeartbeats 2000000 in
theorem law_laid {D D1 : Nat → Prop} (v : Value) (l : List OpV) (w0 w : World) (hb0 : Below w0.heap.size w0 w) (hv : Slc 3 OpV.enc w0 D v l) (ho : OpOk w0 D1 l) (hmu : muchB l = false) (hT : Tabs w0) (h2 : 2 ≤ w0.heap.size) :
    Calls Tryz.prog 22 #[v] w (LaidPost w0 l) := by
  obtain ⟨A, c, rfl, p1, p2, -, -, p5⟩ := hv
  have HRd := Lib.hid p5
  have hm9 : l.length ≤ 9223372036854775807 := by simp only [maxLen] at p2; omega
  unfold LaidPost
  obtain ⟨m, hm⟩ : ∃ m, m = l.length := ⟨_, rfl⟩
  have Hm := Lib.hid hm
  rw [← hm] at hm9 ⊢
  have HDo : Hid (∀ (W : World) (xb yb : Nat) (I : Ix) (o : OpV), o ∈ l → Both w0 xb yb I W → I.all.length ≤ 100 → Calls Tryz.prog 24 #[.pointer (some ⟨xb, 0, none⟩), .pointer (some ⟨yb, 0, none⟩), .agg #[.bool o.cut, .int .u64 o.ref, o.lv]] W fun e w' => e = .returned (.bool true) ∧ Both w0 xb yb (opI I o.op) w') := Lib.hid (fun W xb yb I o hoo hB hI => law_does o W hB (ho o hoo) ((much_small hmu).2 o hoo) (by omega) hT h2)
  have hm60 : m ≤ 60 := by rw [hm]; exact (much_small hmu).1
  have HOk := Lib.hid ho
  have HB0 := Lib.hid hb0
  have HFin : Hid (opsI (l.take m) ix0 = opsI l ix0) := Lib.hid (by rw [List.take_of_length_le (by omega)])
  clear ho hm p1 p2 p5 hT hmu hb0
  go_enter Tryz.func22, Tryz.ntmps22
  go_wp2_with fail
  refine (postings_new w).mono ?_
  intro e w4 hp
  obtain ⟨xb, rfl, hb, hB4⟩ := both_start HB0.out hp
  have HBo := Lib.hid hB4
  clear hp hb hB4
  go_wp2_with fail
  obtain ⟨yb, hyb⟩ : ∃ yb, yb = w4.heap.size := ⟨_, rfl⟩
  rw [← hyb] at HBo ⊢
  generalize w4.alloc (.cells #[.slice none 0 0] 52) = W4 at *
  clear hyb
  go_loopw [16] (fun i wr => ∃ (k : Nat) (I : Ix), k ≤ m ∧ i = .int .i64 k ∧ I = opsI (l.take k) ix0 ∧ Both w0 xb yb I wr ∧ I.all.length ≤ k) (fun i _ => m - (intOf i).toNat)
  case atStart => exact ⟨0, ix0, Nat.zero_le _, rfl, rfl, HBo.out, by simp [ix0]⟩
  case round =>
    obtain ⟨k, I, hk, rfl, hIe, hB, hI⟩ := hrel
    have HIe := Lib.hid hIe
    have hbel : Below w0.heap.size w0 wr := by obtain ⟨X, ab, rb, hb, inner, v, l, h1, h2⟩ := hB; exact h1.below
    by_cases hlt : k < m
    · have hkl : k < l.length := by rw [← Hm.out]; exact hlt
      obtain ⟨b, off, e1, z0, z1, z2⟩ := rdO_at (HRd.out.below hbel) hkl
      cases e1
      have hx := HOk.out _ (List.getElem_mem hkl)
      have hdo := fun (W : World) (hW : Both w0 xb yb I W) => HDo.out W xb yb I l[k] (List.getElem_mem hkl) hW (by omega)
      have HSt := Lib.hid (opsI_take l k hkl ix0)
      generalize l[k] = x at *
      obtain ⟨cut, ref, lv, lab⟩ := x
      simp only at z0 z1 z2 hx hdo
      have HDo1 := Lib.hid hdo
      have HAll := Lib.hid (add_len I hB.ok (⟨cut, ref, lv, lab⟩ : OpV).op)
      obtain ⟨A2, c2, rfl, -⟩ := hx
      generalize lab.length = nl at *
      have HBw := Lib.hid (hB.then (balloc (Below.refl wr.heap.size wr) (.cells #[.bool cut, .int .u64 ref, .slice A2 nl c2] 54)))
      clear hB hdo hbel hIe
      go_wp2_with fail
      refine (HDo1.out _ HBw.out).mono ?_
      rintro e w6 ⟨rfl, hB6⟩
      have HB6 := Lib.hid hB6
      clear hB6
      go_wp2_with fail
      go_roundw
      case rel => exact ⟨k + 1, _, by omega, by go_num, by rw [HSt.out, ← HIe.out], HB6.out, by have := HAll.out; omega⟩
      case measure => simp [intOf] <;> omega
    · have hkm : k = m := by omega
      subst hkm
      have HB := Lib.hid hB
      clear hB hbel hIe
      go_wp2_with fail
      go_ret3
      refine ⟨xb, yb, rfl, ?_, ?_⟩
      · rw [← HFin.out, ← HIe.out]; exact HB.out
      · rw [← HFin.out, ← HIe.out]; exact hI
set_option maxRecDepth 100000 in
set_option maxHeartbeats 4000000 in
theorem law_names {D D1 : Nat → Prop} (v : Value) (l : List OpV) (name : ByteArray) (w : World) (hv : Slc 3 OpV.enc w D v l) (ho : OpOk w D1 l) (hT : Tabs w) (h2 : 2 ≤ w.heap.size) :
    Calls Tryz.prog 6 #[v, .string name] w fun e w' => e = .returned (.bool true) ∧ Below w.heap.size w w' := by
  have HLive := Lib.hid fun (W : World) (hW : Below w.heap.size w W) => law10_live W (hT.below hW h2) (Nat.le_trans h2 hW.size)
  have HMuch := Lib.hid fun (W : World) (hW : Below w.heap.size w W) => law_much v l W (hv.below hW) (fun o hoo => (ho o hoo).below hW)
  have HLaid := Lib.hid fun (hmu : muchB l = false) (W : World) (hW : Below w.heap.size w W) => law_laid v l w W hW hv ho hmu hT h2
  obtain ⟨A, c, rfl, p1, p2, -, -, p5⟩ := hv
  obtain ⟨m, hm⟩ : ∃ m, m = l.length := ⟨_, rfl⟩
  have Hm := Lib.hid hm
  rw [← hm] at HMuch HLaid ⊢
  clear ho hm p1 p2 p5 hT
  cases hmu : muchB l with
  | true =>
    rw [hmu] at HMuch
    clear hmu HLaid
    go_enter Tryz.func6, Tryz.ntmps6
    go_wp2_with fail
    refine (HLive.out w (Below.refl _ _)).mono ?_
    rintro e w1 ⟨rfl, hb⟩
    have HB1 := Lib.hid hb
    clear hb
    go_wp2_with fail
    refine (HMuch.out w1 HB1.out).mono ?_
    rintro e w2 ⟨rfl, hb⟩
    have HB2 := Lib.hid (bthen HB1.out hb)
    clear hb
    go_wp2_with fail
    refine (HLive.out w2 HB2.out).mono ?_
    rintro e w3 ⟨rfl, hb⟩
    have HB3 := Lib.hid (bthen HB2.out hb)
    clear hb
    go_wp2_with fail
    go_ret
    exact ⟨rfl, HB3.out⟩
  | false =>
    rw [hmu] at HMuch
    have HLd := Lib.hid (HLaid.out hmu)
    unfold LaidPost at HLd
    have HM60 : Hid (l.length ≤ 60) := Lib.hid (much_small hmu).1
    clear hmu HLaid
    by_cases hnm : 200 < name.size
    · have hd : decide ((name.size : Int) > 200) = true := decide_eq_true (by omega)
      have hd' : decide ((200 : Int) < (name.size : Int)) = true := decide_eq_true (by omega)
      clear hnm
      go_enter Tryz.func6, Tryz.ntmps6
      go_wp2_with fail
      refine (HLive.out w (Below.refl _ _)).mono ?_
      rintro e w1 ⟨rfl, hb⟩
      have HB1 := Lib.hid hb
      clear hb
      go_wp2_with fail
      refine (HMuch.out w1 HB1.out).mono ?_
      rintro e w2 ⟨rfl, hb⟩
      have HB2 := Lib.hid (bthen HB1.out hb)
      clear hb
      go_wp2_with fail
      refine (HLive.out w2 HB2.out).mono ?_
      rintro e w3 ⟨rfl, hb⟩
      have HB3 := Lib.hid (bthen HB2.out hb)
      clear hb
      go_wp2_with fail
      go_ret
      exact ⟨rfl, HB3.out⟩
    · have hd : decide ((name.size : Int) > 200) = false := decide_eq_false (by omega)
      have hd' : decide ((200 : Int) < (name.size : Int)) = false := decide_eq_false (by omega)
      clear hnm
      go_enter Tryz.func6, Tryz.ntmps6
      go_wp2_with fail
      refine (HLive.out w (Below.refl _ _)).mono ?_
      rintro e w1 ⟨rfl, hb⟩
      have HB1 := Lib.hid hb
      clear hb
      go_wp2_with fail
      refine (HMuch.out w1 HB1.out).mono ?_
      rintro e w2 ⟨rfl, hb⟩
      have HB2 := Lib.hid (bthen HB1.out hb)
      clear hb
      go_wp2_with fail
      refine (HLd.out w2 HB2.out).mono ?_
      rintro e w3 ⟨xb, yb, rfl, hBo, hln⟩
      obtain ⟨X, ab, rb, hb, inner, vy, ls, hBo, hkeys⟩ := hBo
      have HK := Lib.hid hkeys
      generalize opsI l ix0 = I at *
      obtain ⟨hs1, hs2⟩ := all_small hBo.ok (by have := HM60.out; omega)
      have HS1 : Hid ((allL (ls.map Sx.key)).length ≤ 100000) := Lib.hid (by rw [hkeys]; omega)
      have HS2 : Hid (I.has.length ≤ 1000000) := Lib.hid (by omega)
      have HBo3 := Lib.hid hBo
      have hnames := ix_names w3 hBo.ix hBo.ok HS2.out
      unfold NamePost at hnames
      have HNames := Lib.hid hnames
      clear hBo hkeys hln hs1 hs2 hnames
      go_wp2_with fail
      refine HNames.out.mono ?_
      rintro e w4 ⟨v4, rfl, hs4, hb4⟩
      obtain ⟨A4, c4, rfl, -⟩ := id hs4
      have HV4 := Lib.hid hs4
      have HBo4 := Lib.hid (HBo3.out.then hb4)
      have k4 := blk_cell HBo4.out.y.hc 0
      simp at k4
      have hrn := ref10_names yb vy ls w4 k4 HBo4.out.y.slc HBo4.out.y.ok HS1.out
      unfold NamePost at hrn
      rw [HK.out] at hrn
      have HRn := Lib.hid hrn
      clear hs4 hb4 k4 hrn
      go_wp2_with fail
      refine HRn.out.mono ?_
      rintro e w5 ⟨v5, rfl, hs5, hb5⟩
      obtain ⟨A5, c5, rfl, -⟩ := id hs5
      have HBo5 := Lib.hid (HBo4.out.then hb5)
      have hwd := law_words _ _ _ _ w5 (HV4.out.below hb5) hs5
      simp only [decide_true] at hwd
      have HWd := Lib.hid hwd
      clear hs5 hb5 hwd
      go_wp2_with fail
      refine HWd.out.mono ?_
      rintro e w6 ⟨rfl, hb6⟩
      have HBo6 := Lib.hid (HBo5.out.then hb6)
      have hvals := ix_values name w6 HBo6.out.ix HBo6.out.ok HS2.out
      unfold NamePost at hvals
      have HVals := Lib.hid hvals
      clear hb6 hvals
      go_wp2_with fail
      refine HVals.out.mono ?_
      rintro e w7 ⟨v7, rfl, hs7, hb7⟩
      obtain ⟨A7, c7, rfl, -⟩ := id hs7
      have HV7 := Lib.hid hs7
      have HBo7 := Lib.hid (HBo6.out.then hb7)
      have k7 := blk_cell HBo7.out.y.hc 0
      simp at k7
      have hrv := ref10_values yb vy ls name w7 k7 HBo7.out.y.slc HBo7.out.y.ok HS1.out
      unfold NamePost at hrv
      rw [HK.out] at hrv
      have HRv := Lib.hid hrv
      clear hs7 hb7 k7 hrv
      go_wp2_with fail
      refine HRv.out.mono ?_
      rintro e w8 ⟨v8, rfl, hs8, hb8⟩
      obtain ⟨A8, c8, rfl, -⟩ := id hs8
      have HBo8 := Lib.hid (HBo7.out.then hb8)
      have hwd2 := law_words _ _ _ _ w8 (HV7.out.below hb8) hs8
      simp only [decide_true] at hwd2
      have HWd2 := Lib.hid hwd2
      clear hs8 hb8 hwd2
      go_wp2_with fail
      refine HWd2.out.mono ?_
      rintro e w9 ⟨rfl, hb9⟩
      have HB9 := Lib.hid (HBo8.out.then hb9).below
      clear hb9
      go_wp2_with fail
      go_ret
      exact ⟨rfl, HB9.out⟩
end Go.Proofs.YtlhmdgaohonpbaaGreatDoor
