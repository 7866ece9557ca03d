import Derived.Test.YtlhmdgaohonpbaaGreatDoorGNuA
import Derived.Lib.AppendZerosOnto
import Derived.Laws.Append
import Derived.LoopN
set_option linter.unusedSimpArgs false
set_option linter.unusedVariables false
set_option linter.unusedSectionVars false
/- postings.in, only, And, Less. -/
namespace Go.Proofs.YtlhmdgaohonpbaaGreatDoor
open Go.RowKit Go.Sort Go.Proofs.YtlhmdgaohonpbaaGreatDoor.MapRaw Go.ChangeMaps

theorem below_drewN (w : World) (n : Nat) : Below w.heap.size w (w.drewN n) := ⟨rfl, rfl, rfl, Nat.le_refl _, fun _ _ => rfl⟩
set_option maxRecDepth 100000 in
set_option maxHeartbeats 400000 in
theorem search_nil (A : Option Addr) (c : Nat) (x : Int) (w : World) :
    Calls Tryz.prog 82 #[.slice A 0 c, .int .u64 x] w fun e w' => e = .returned (.tuple #[.int .i64 0, .bool false]) ∧ w' = w := by
  go_enter Tryz.func82, Tryz.ntmps82
  go_wp2
  go_loopg [7, 8] 0 (fun g s7 s8 wr => s7 = .int .i64 0 ∧ s8 = .int .i64 0 ∧ wr = w)
  case atStart => exact ⟨rfl, rfl, rfl⟩
  case round =>
    obtain ⟨rfl, rfl, rfl⟩ := hrel
    go_wp2
    go_ret2
    exact ⟨rfl, rfl⟩
theorem search_any {D : Nat → Prop} (v : Value) (l : List Int) (x : Int) (w : World) (hv : SlU w D v l) (hl : l.length ≤ 1000000) (hs : l.Pairwise (· ≤ ·)) :
    Calls Tryz.prog 82 #[v, .int .u64 x] w fun e w' => ∃ i, e = .returned (.tuple #[.int .i64 i, .bool (decide (x ∈ l))]) ∧ Below w.heap.size w w' := by
  obtain ⟨A, c, rfl, h1, h2, h3, h4, h5⟩ := hv
  cases A with
  | none =>
    have hl0 : l = [] := by
      cases l with
      | nil => rfl
      | cons x r => obtain ⟨b, off, e, _⟩ := h5 0 x rfl; cases e
    subst hl0
    refine (search_nil none c x w).mono ?_
    rintro e w' ⟨rfl, rfl⟩
    exact ⟨0, by simp, Below.refl _ _⟩
  | some ad =>
    have hl5 : ∀ k (hk : k < l.length), ∃ b off, some ad = some ⟨b, off, none⟩ ∧ w.cell? ⟨b, off + k, none⟩ = some (.int .u64 l[k]) := fun k hk => rdU_at h5 hk
    by_cases hz : l.length = 0
    · have hl0 : l = [] := List.eq_nil_of_length_eq_zero hz
      subst hl0
      refine (search_nil (some ad) c x w).mono ?_
      rintro e w' ⟨rfl, rfl⟩
      exact ⟨0, by simp, Below.refl _ _⟩
    · obtain ⟨b, off, e, _⟩ := hl5 0 (by omega)
      cases e
      refine (Srt.search_u64 b off l.length c l x w (Nat.le_refl _) (by omega) (fun j hj => ?_) (by rw [List.take_length]; exact hs)).mono ?_
      · obtain ⟨b', off', e, hc⟩ := hl5 j hj
        cases e
        rw [hc]
        simp [List.getD_eq_getElem?_getD, List.getElem?_eq_getElem hj]
      · rintro e w' ⟨rfl, q, rfl⟩
        have e1 : (l.take l.length).contains x = decide (x ∈ l) := by rw [List.take_length]; simp
        rw [e1]
        exact ⟨_, rfl, below_drewN w q⟩
set_option maxRecDepth 100000 in
set_option maxHeartbeats 400000 in
theorem post_in {D : Nat → Prop} (v : Value) (l : List Int) (x : Int) (w : World) (hv : SlU w D v l) (hl : l.length ≤ 1000000) (hs : l.Pairwise (· ≤ ·)) :
    Calls Tryz.prog 63 #[v, .int .u64 x] w fun e w' => e = .returned (.bool (decide (x ∈ l))) ∧ Below w.heap.size w w' := by
  have hc := search_any v l x w hv hl hs
  have HC := Lib.hid hc
  obtain ⟨A, c, rfl, -⟩ := hv
  generalize decide (x ∈ l) = res at *
  generalize l.length = nl at *
  clear hc hs hl
  go_enter Tryz.func63, Tryz.ntmps63
  go_wp2_with fail
  refine HC.out.mono ?_
  rintro e w1 ⟨i, rfl, hb⟩
  have HB := Lib.hid hb
  clear hb
  go_wp2_with fail
  go_ret
  exact ⟨rfl, HB.out⟩
set_option maxRecDepth 100000 in
set_option maxHeartbeats 400000 in
theorem and_one {D : Nat → Prop} {sb : Nat} (v : Value) (l : List Int) (x : Int) (w : World) (hb : w.heap[sb]? = some (.cells #[v] 36 (0, 0))) (hv : SlU w D v l) (hl : l.length ≤ 1000000) (hs : l.Pairwise (· ≤ ·)) :
    Calls Tryz.prog 62 #[.int .u64 x, .pointer (some ⟨sb, 0, none⟩)] w fun e w' => e = .returned (.bool (decide (x ∈ l))) ∧ Below w.heap.size w w' := by
  have hc := post_in v l x w hv hl hs
  have HC := Lib.hid hc
  have c0 : w.cell? ⟨sb, 0, none⟩ = some v := by have := blk_cell hb 0; simpa using this
  obtain ⟨A, c, rfl, -⟩ := hv
  generalize decide (x ∈ l) = res at *
  generalize l.length = nl at *
  clear hc hs hl hb
  go_enter Tryz.func62, Tryz.ntmps62
  go_wp2_with fail
  refine HC.out.mono ?_
  rintro e w1 ⟨rfl, hb⟩
  have HB := Lib.hid hb
  clear hb
  go_wp2_with fail
  go_ret
  exact ⟨rfl, HB.out⟩
set_option maxRecDepth 100000 in
set_option maxHeartbeats 1000000 in
theorem only_and {D D1 : Nat → Prop} {sb : Nat} (v u : Value) (a l : List Int) (w : World) (ha : SlU w D v a) (hal : a.length ≤ 1000000) (hb : w.heap[sb]? = some (.cells #[u] 36 (0, 0))) (hv : SlU w D1 u l) (hl : l.length ≤ 1000000) (hs : l.Pairwise (· ≤ ·)) :
    Calls Tryz.prog 61 #[v, .func (.func 62) #[] #[.pointer (some ⟨sb, 0, none⟩)]] w (OwnPost w ((setF a).filter fun n => decide (n ∈ l))) := by
  have hset := post_set v a w ha hal
  unfold OwnPost at hset
  have hone := fun (W : World) (hW : Below w.heap.size w W) (x : Int) => and_one u l x W (blk_below hb hW) (hv.below hW) hl hs
  have HSet := Lib.hid hset
  have HOne := Lib.hid hone
  have hsl := set_len a
  generalize setF a = s at *
  have HLs : Hid (s.length ≤ 1000000) := Lib.hid (by omega)
  obtain ⟨A, c, rfl, -⟩ := ha
  generalize a.length = na at *
  clear hset hone hb hv hl hs hsl hal
  unfold OwnPost
  go_enter Tryz.func61, Tryz.ntmps61
  go_wp2_with fail
  refine HSet.out.mono ?_
  rintro e w1 ⟨v1, rfl, ho1, hb1⟩
  have hsl1 := own_slc encU_len rfl ho1
  obtain ⟨A1, c1, rfl, q1, q2, -, -, q5⟩ := hsl1
  have HRd := Lib.hid fun (W : World) (hW : Below w1.heap.size w1 W) => Rd.below q5 hW
  have HB1 := Lib.hid hb1
  have hm9 : s.length ≤ 9223372036854775807 := by have := HLs.out; omega
  obtain ⟨m, hm⟩ : ∃ m, m = s.length := ⟨_, rfl⟩
  have Hm := Lib.hid hm
  rw [← hm] at hm9 ⊢
  clear q1 q2 q5 ho1 hb1 hm
  go_wp2_with fail
  go_loopw [5, 11] (fun vo i wr => ∃ (k : Nat) (ks : List Int), k ≤ m ∧ i = .int .i64 k ∧ ks = (s.take k).filter (fun n => decide (n ∈ l)) ∧ wr.ownsRow w1.heap.size 34 1 vo ks.length (ks.flatMap encU) ∧ Below w1.heap.size w1 wr) (fun _ i _ => m - (intOf i).toNat)
  case atStart => exact ⟨0, [], Nat.zero_le _, rfl, by simp, ⟨rfl, .inl ⟨rfl, rfl⟩⟩, Below.refl _ _⟩
  case round =>
    obtain ⟨k, ks, hk, rfl, hks, hown, hB⟩ := hrel
    have HBr := Lib.hid hB
    have HOw := Lib.hid hown
    have HKs := Lib.hid hks
    by_cases hlt : k < m
    · have hkl : k < s.length := by rw [← Hm.out]; exact hlt
      obtain ⟨b, off, e1, hzc⟩ := rdU_at (HRd.out wr hB) hkl
      cases e1
      have HNx : Hid ((s.take (k + 1)).filter (fun n => decide (n ∈ l)) = ks ++ if (decide (s[k] ∈ l)) = true then [s[k]] else []) := Lib.hid (by
        rw [List.take_succ_eq_append_getElem hkl, List.filter_append, ← hks]
        congr 1
        rw [List.filter_cons, List.filter_nil])
      have ho := HOne.out wr (HB1.out.trans (hB.mono HB1.out.size)) s[k]
      generalize s[k] = x at *
      have HOx := Lib.hid ho
      have HLk : Hid (ks.length ≤ 1000000) := Lib.hid (by
        rw [hks]
        have h1 := List.length_filter_le (fun n => decide (n ∈ l)) (s.take k)
        have h2 : (s.take k).length ≤ s.length := by simp [List.length_take]; omega
        have := HLs.out
        omega)
      generalize decide (x ∈ l) = bz at *
      clear hown hks hB ho
      go_wp2_with fail
      refine HOx.out.mono ?_
      rintro e w5 ⟨rfl, hb5⟩
      have HB5 : Hid (Below w1.heap.size w1 w5) := Lib.hid (HBr.out.trans (hb5.mono HBr.out.size))
      have HOw5 := Lib.hid (own_below HOw.out hb5)
      clear hb5
      cases bz with
      | false =>
        have HN2 : Hid (ks = (s.take (k + 1)).filter (fun n => decide (n ∈ l))) := Lib.hid (by rw [HNx.out]; simp)
        go_wp2_with fail
        go_roundw
        case rel => exact ⟨k + 1, ks, by omega, by go_num, HN2.out, HOw5.out, HB5.out⟩
        case measure => simp [intOf] <;> omega
      | true =>
        have HN2 : Hid (ks ++ [x] = (s.take (k + 1)).filter (fun n => decide (n ∈ l))) := Lib.hid (by rw [HNx.out]; simp)
        have HBa : Hid (Below w5.heap.size w5 (w5.alloc (.cells #[.int .u64 x] 34))) := Lib.hid (balloc (Below.refl _ _) _)
        have HOa := Lib.hid (own_below HOw5.out HBa.out)
        have HSrc : Hid (SrcAt (w5.alloc (.cells #[.int .u64 x] 34)) (.slice (some ⟨w5.heap.size, 0, none⟩) 1 1) 1 1 [.int .u64 x]) := Lib.hid (src_block (m := 1) (size := 1) (blk_new w5 (.cells #[.int .u64 x] 34 (0, 0))) rfl (by intro u hu; simp at hu; subst hu; rfl) 1)
        go_wp2_with (at_builtin; refine wpList_app (w0 := w1) w1.heap.size rfl _ _ 36 34 _ 1 8 1 [.int .u64 x] rfl Tryz.underlying36 info_u64 rfl (by decide) (by decide) u5 ks.length (ks.flatMap encU) ?hs ?hx HOa.out (HB5.out.trans (HBa.out.mono HB5.out.size)) (by have := HB5.out.size; simp; omega) (by have := HLk.out; omega) ?_)
        case hs => rfl
        case hx => exact HSrc.out
        intro v3 w6 hO3 hB3 hg3 hat3
        have HO3 := Lib.hid hO3
        have HB3 := Lib.hid hB3
        clear hO3 hB3 hg3 hat3
        go_wp2_with fail
        go_roundw
        case rel => exact ⟨k + 1, ks ++ [x], by omega, by go_num, HN2.out, by simpa using HO3.out, HB3.out⟩
        case measure => simp [intOf] <;> omega
    · have htk : s.take k = s := List.take_of_length_le (by rw [← Hm.out]; omega)
      rw [htk] at hks
      have HKe := Lib.hid hks
      clear hown hks hB htk
      go_wp2_with fail
      go_ret
      refine ⟨_, rfl, ?_, HB1.out.trans (HBr.out.mono HB1.out.size)⟩
      rw [← HKe.out]
      exact own_base HOw.out HB1.out.size
set_option maxRecDepth 100000 in
set_option maxHeartbeats 1000000 in
theorem post_and {D D1 : Nat → Prop} (va vb : Value) (a b : List Int) (w : World) (ha : SlU w D va a) (hal : a.length ≤ 1000000) (hb : SlU w D1 vb b) (hbl : b.length ≤ 1000000) :
    Calls Tryz.prog 34 #[va, vb] w (OwnPost w (andF a b)) := by
  have hmf : ∀ (fn : Fn) (first cap : Array Value) (w : World), (Instr.makeFunc fn first cap).run Tryz.prog w = .ok (.func fn first cap) w := fun _ _ _ _ => rfl
  have hset := post_set vb b w hb hbl
  unfold OwnPost at hset
  have HSet := Lib.hid hset
  have HOn := Lib.hid fun (W : World) (sb : Nat) (u : Value) (l : List Int) (hB : Below w.heap.size w W) (hb : W.heap[sb]? = some (.cells #[u] 36 (0, 0))) (hv : SlU W (fun k => w.heap.size ≤ k) u l) (hl : l.length ≤ 1000000) (hs : l.Pairwise (· ≤ ·)) => only_and va u a l W (ha.below hB) hal hb hv hl hs
  have HSl : Hid ((setF b).length ≤ 1000000) := Lib.hid (Nat.le_trans (set_len b) hbl)
  obtain ⟨A, c, rfl, -⟩ := ha
  obtain ⟨A2, c2, rfl, -⟩ := hb
  generalize a.length = na at *
  generalize b.length = nb at *
  clear hset hal hbl
  go_enter Tryz.func34, Tryz.ntmps34
  go_wp2_with fail
  refine HSet.out.mono ?_
  rintro e w1 ⟨v1, rfl, ho1, hb1⟩
  obtain ⟨A9, c9, rfl⟩ := own_slice ho1
  obtain ⟨W, hW⟩ : ∃ W, W = w1.alloc (.cells #[.slice A9 (setF b).length c9] 36) := ⟨_, rfl⟩
  have hbW : Below w1.heap.size w1 W := by rw [hW]; exact balloc (Below.refl _ _) _
  have hB0 : Below w.heap.size w W := bthen hb1 hbW
  have hwb : W.heap[w1.heap.size]? = some (.cells #[.slice A9 (setF b).length c9] 36 (0, 0)) := by rw [hW]; exact blk_new w1 _
  have hcal := HOn.out W w1.heap.size _ (setF b) hB0 hwb (own_slc encU_len rfl (own_below ho1 hbW)) HSl.out ((set_strict b).imp (fun h => by omega))
  have HCal := Lib.hid hcal
  have HB0 := Lib.hid hB0
  clear hcal hB0 hwb hbW ho1 hb1
  go_wp2_with fail
  rw [← hW]
  clear hW
  refine HCal.out.mono ?_
  rintro e w3 ⟨v3, rfl, ho3, hb3⟩
  have HO3 := Lib.hid ho3
  have HB3 := Lib.hid (bthen HB0.out hb3)
  clear ho3 hb3
  go_wp2_with fail
  go_ret
  have e1 : (setF a).filter (fun n => decide (n ∈ setF b)) = andF a b := by unfold andF; congr 1; funext n; rw [decide_eq_decide.2 mem_set]
  have ho := HO3.out
  rw [e1] at ho
  exact ⟨_, rfl, own_base ho HB0.out.size, HB3.out⟩
set_option maxRecDepth 100000 in
set_option maxHeartbeats 400000 in
theorem less_one {D : Nat → Prop} {sb : Nat} (v : Value) (l : List Int) (x : Int) (w : World) (hb : w.heap[sb]? = some (.cells #[v] 36 (0, 0))) (hv : SlU w D v l) (hl : l.length ≤ 1000000) (hs : l.Pairwise (· ≤ ·)) :
    Calls Tryz.prog 66 #[.int .u64 x, .pointer (some ⟨sb, 0, none⟩)] w fun e w' => e = .returned (.bool (!decide (x ∈ l))) ∧ Below w.heap.size w w' := by
  have hc := post_in v l x w hv hl hs
  have HC := Lib.hid hc
  have c0 : w.cell? ⟨sb, 0, none⟩ = some v := by have := blk_cell hb 0; simpa using this
  obtain ⟨A, c, rfl, -⟩ := hv
  generalize decide (x ∈ l) = res at *
  generalize l.length = nl at *
  clear hc hs hl hb
  go_enter Tryz.func66, Tryz.ntmps66
  go_wp2_with fail
  refine HC.out.mono ?_
  rintro e w1 ⟨rfl, hb⟩
  have HB := Lib.hid hb
  clear hb
  go_wp2_with fail
  go_ret
  exact ⟨rfl, HB.out⟩
set_option maxRecDepth 100000 in
set_option maxHeartbeats 1000000 in
theorem only_less {D D1 : Nat → Prop} {sb : Nat} (v u : Value) (a l : List Int) (w : World) (ha : SlU w D v a) (hal : a.length ≤ 1000000) (hb : w.heap[sb]? = some (.cells #[u] 36 (0, 0))) (hv : SlU w D1 u l) (hl : l.length ≤ 1000000) (hs : l.Pairwise (· ≤ ·)) :
    Calls Tryz.prog 61 #[v, .func (.func 66) #[] #[.pointer (some ⟨sb, 0, none⟩)]] w (OwnPost w ((setF a).filter fun n => !decide (n ∈ l))) := by
  have hset := post_set v a w ha hal
  unfold OwnPost at hset
  have hone := fun (W : World) (hW : Below w.heap.size w W) (x : Int) => less_one u l x W (blk_below hb hW) (hv.below hW) hl hs
  have HSet := Lib.hid hset
  have HOne := Lib.hid hone
  have hsl := set_len a
  generalize setF a = s at *
  have HLs : Hid (s.length ≤ 1000000) := Lib.hid (by omega)
  obtain ⟨A, c, rfl, -⟩ := ha
  generalize a.length = na at *
  clear hset hone hb hv hl hs hsl hal
  unfold OwnPost
  go_enter Tryz.func61, Tryz.ntmps61
  go_wp2_with fail
  refine HSet.out.mono ?_
  rintro e w1 ⟨v1, rfl, ho1, hb1⟩
  have hsl1 := own_slc encU_len rfl ho1
  obtain ⟨A1, c1, rfl, q1, q2, -, -, q5⟩ := hsl1
  have HRd := Lib.hid fun (W : World) (hW : Below w1.heap.size w1 W) => Rd.below q5 hW
  have HB1 := Lib.hid hb1
  have hm9 : s.length ≤ 9223372036854775807 := by have := HLs.out; omega
  obtain ⟨m, hm⟩ : ∃ m, m = s.length := ⟨_, rfl⟩
  have Hm := Lib.hid hm
  rw [← hm] at hm9 ⊢
  clear q1 q2 q5 ho1 hb1 hm
  go_wp2_with fail
  go_loopw [5, 11] (fun vo i wr => ∃ (k : Nat) (ks : List Int), k ≤ m ∧ i = .int .i64 k ∧ ks = (s.take k).filter (fun n => !decide (n ∈ l)) ∧ wr.ownsRow w1.heap.size 34 1 vo ks.length (ks.flatMap encU) ∧ Below w1.heap.size w1 wr) (fun _ i _ => m - (intOf i).toNat)
  case atStart => exact ⟨0, [], Nat.zero_le _, rfl, by simp, ⟨rfl, .inl ⟨rfl, rfl⟩⟩, Below.refl _ _⟩
  case round =>
    obtain ⟨k, ks, hk, rfl, hks, hown, hB⟩ := hrel
    have HBr := Lib.hid hB
    have HOw := Lib.hid hown
    have HKs := Lib.hid hks
    by_cases hlt : k < m
    · have hkl : k < s.length := by rw [← Hm.out]; exact hlt
      obtain ⟨b, off, e1, hzc⟩ := rdU_at (HRd.out wr hB) hkl
      cases e1
      have HNx : Hid ((s.take (k + 1)).filter (fun n => !decide (n ∈ l)) = ks ++ if (!decide (s[k] ∈ l)) = true then [s[k]] else []) := Lib.hid (by
        rw [List.take_succ_eq_append_getElem hkl, List.filter_append, ← hks]
        congr 1
        rw [List.filter_cons, List.filter_nil])
      have ho := HOne.out wr (HB1.out.trans (hB.mono HB1.out.size)) s[k]
      generalize s[k] = x at *
      have HOx := Lib.hid ho
      have HLk : Hid (ks.length ≤ 1000000) := Lib.hid (by
        rw [hks]
        have h1 := List.length_filter_le (fun n => !decide (n ∈ l)) (s.take k)
        have h2 : (s.take k).length ≤ s.length := by simp [List.length_take]; omega
        have := HLs.out
        omega)
      generalize decide (x ∈ l) = bz at *
      clear hown hks hB ho
      go_wp2_with fail
      refine HOx.out.mono ?_
      rintro e w5 ⟨rfl, hb5⟩
      have HB5 : Hid (Below w1.heap.size w1 w5) := Lib.hid (HBr.out.trans (hb5.mono HBr.out.size))
      have HOw5 := Lib.hid (own_below HOw.out hb5)
      clear hb5
      cases bz with
      | true =>
        have HN2 : Hid (ks = (s.take (k + 1)).filter (fun n => !decide (n ∈ l))) := Lib.hid (by rw [HNx.out]; simp)
        go_wp2_with fail
        go_roundw
        case rel => exact ⟨k + 1, ks, by omega, by go_num, HN2.out, HOw5.out, HB5.out⟩
        case measure => simp [intOf] <;> omega
      | false =>
        have HN2 : Hid (ks ++ [x] = (s.take (k + 1)).filter (fun n => !decide (n ∈ l))) := Lib.hid (by rw [HNx.out]; simp)
        have HBa : Hid (Below w5.heap.size w5 (w5.alloc (.cells #[.int .u64 x] 34))) := Lib.hid (balloc (Below.refl _ _) _)
        have HOa := Lib.hid (own_below HOw5.out HBa.out)
        have HSrc : Hid (SrcAt (w5.alloc (.cells #[.int .u64 x] 34)) (.slice (some ⟨w5.heap.size, 0, none⟩) 1 1) 1 1 [.int .u64 x]) := Lib.hid (src_block (m := 1) (size := 1) (blk_new w5 (.cells #[.int .u64 x] 34 (0, 0))) rfl (by intro u hu; simp at hu; subst hu; rfl) 1)
        go_wp2_with (at_builtin; refine wpList_app (w0 := w1) w1.heap.size rfl _ _ 36 34 _ 1 8 1 [.int .u64 x] rfl Tryz.underlying36 info_u64 rfl (by decide) (by decide) u5 ks.length (ks.flatMap encU) ?hs ?hx HOa.out (HB5.out.trans (HBa.out.mono HB5.out.size)) (by have := HB5.out.size; simp; omega) (by have := HLk.out; omega) ?_)
        case hs => rfl
        case hx => exact HSrc.out
        intro v3 w6 hO3 hB3 hg3 hat3
        have HO3 := Lib.hid hO3
        have HB3 := Lib.hid hB3
        clear hO3 hB3 hg3 hat3
        go_wp2_with fail
        go_roundw
        case rel => exact ⟨k + 1, ks ++ [x], by omega, by go_num, HN2.out, by simpa using HO3.out, HB3.out⟩
        case measure => simp [intOf] <;> omega
    · have htk : s.take k = s := List.take_of_length_le (by rw [← Hm.out]; omega)
      rw [htk] at hks
      have HKe := Lib.hid hks
      clear hown hks hB htk
      go_wp2_with fail
      go_ret
      refine ⟨_, rfl, ?_, HB1.out.trans (HBr.out.mono HB1.out.size)⟩
      rw [← HKe.out]
      exact own_base HOw.out HB1.out.size
set_option maxRecDepth 100000 in
set_option maxHeartbeats 1000000 in
theorem post_less {D D1 : Nat → Prop} (va vb : Value) (a b : List Int) (w : World) (ha : SlU w D va a) (hal : a.length ≤ 1000000) (hb : SlU w D1 vb b) (hbl : b.length ≤ 1000000) :
    Calls Tryz.prog 37 #[va, vb] w (OwnPost w (lessF a b)) := by
  have hmf : ∀ (fn : Fn) (first cap : Array Value) (w : World), (Instr.makeFunc fn first cap).run Tryz.prog w = .ok (.func fn first cap) w := fun _ _ _ _ => rfl
  have hset := post_set vb b w hb hbl
  unfold OwnPost at hset
  have HSet := Lib.hid hset
  have HOn := Lib.hid fun (W : World) (sb : Nat) (u : Value) (l : List Int) (hB : Below w.heap.size w W) (hb : W.heap[sb]? = some (.cells #[u] 36 (0, 0))) (hv : SlU W (fun k => w.heap.size ≤ k) u l) (hl : l.length ≤ 1000000) (hs : l.Pairwise (· ≤ ·)) => only_less va u a l W (ha.below hB) hal hb hv hl hs
  have HSl : Hid ((setF b).length ≤ 1000000) := Lib.hid (Nat.le_trans (set_len b) hbl)
  obtain ⟨A, c, rfl, -⟩ := ha
  obtain ⟨A2, c2, rfl, -⟩ := hb
  generalize a.length = na at *
  generalize b.length = nb at *
  clear hset hal hbl
  go_enter Tryz.func37, Tryz.ntmps37
  go_wp2_with fail
  refine HSet.out.mono ?_
  rintro e w1 ⟨v1, rfl, ho1, hb1⟩
  obtain ⟨A9, c9, rfl⟩ := own_slice ho1
  obtain ⟨W, hW⟩ : ∃ W, W = w1.alloc (.cells #[.slice A9 (setF b).length c9] 36) := ⟨_, rfl⟩
  have hbW : Below w1.heap.size w1 W := by rw [hW]; exact balloc (Below.refl _ _) _
  have hB0 : Below w.heap.size w W := bthen hb1 hbW
  have hwb : W.heap[w1.heap.size]? = some (.cells #[.slice A9 (setF b).length c9] 36 (0, 0)) := by rw [hW]; exact blk_new w1 _
  have hcal := HOn.out W w1.heap.size _ (setF b) hB0 hwb (own_slc encU_len rfl (own_below ho1 hbW)) HSl.out ((set_strict b).imp (fun h => by omega))
  have HCal := Lib.hid hcal
  have HB0 := Lib.hid hB0
  clear hcal hB0 hwb hbW ho1 hb1
  go_wp2_with fail
  rw [← hW]
  clear hW
  refine HCal.out.mono ?_
  rintro e w3 ⟨v3, rfl, ho3, hb3⟩
  have HO3 := Lib.hid ho3
  have HB3 := Lib.hid (bthen HB0.out hb3)
  clear ho3 hb3
  go_wp2_with fail
  go_ret
  have e1 : (setF a).filter (fun n => !decide (n ∈ setF b)) = lessF a b := by unfold lessF; congr 1; funext n; rw [decide_eq_decide.2 mem_set]
  have ho := HO3.out
  rw [e1] at ho
  exact ⟨_, rfl, own_base ho HB0.out.size, HB3.out⟩
end Go.Proofs.YtlhmdgaohonpbaaGreatDoor

/- slices.Grow of nil, Concat of two lists of numbers, postings.Or. -/
namespace Go.Proofs.YtlhmdgaohonpbaaGreatDoor
open Go.RowKit Go.Sort Go.Proofs.YtlhmdgaohonpbaaGreatDoor.MapRaw Go.ChangeMaps

set_option maxRecDepth 100000 in
set_option maxHeartbeats 1000000 in
theorem grow_nil (n : Nat) (w : World) (hn : n ≤ 2000000) :
    Calls Tryz.prog 84 #[.slice none 0 0, .int .i64 n] w fun e w' => ∃ c, e = .returned (.slice (some ⟨w.heap.size, 0, none⟩) 0 c) ∧ w'.ownsRow w.heap.size 34 1 (.slice (some ⟨w.heap.size, 0, none⟩) 0 c) 0 [] ∧ Below w.heap.size w w' ∨ e = .returned (.slice none 0 0) ∧ w' = w := by
  by_cases h0 : n = 0
  · subst h0
    go_enter Tryz.func84, Tryz.ntmps84
    go_wp2
    go_ret
    exact ⟨0, .inr ⟨rfl, rfl⟩⟩
  · obtain ⟨i0, hi, hii⟩ := Option.map_eq_some_iff.1 info_u64
    simp only [Prod.mk.injEq] at hii
    obtain ⟨hz, hs, hb⟩ := hii
    have hrz : ∀ ty, (Builtin.append_ #[36, 3] ty #[.slice none 0 0, .int .i64 n]).run Tryz.prog w =
        .ok (.slice (some ⟨w.heap.size, 0, none⟩) n (grownCap w n 0 34)) (w.drew.alloc (.cells (#[] ++ Builtin.zeroCells (Value.int .u64 0).cells n ++ Builtin.zeroCells (Value.int .u64 0).cells (grownCap w n 0 34 - n)) 34)) := fun ty => by
      have h := Lib.run_append_grow_zeros w 36 3 ty 34 i0 (.int .u64 0) .i64 .i64 Tryz.underlying36 Tryz.underlying3 hi hz none 0 0 [] (by rw [hs]; exact run_firstCells_none w.drew 1 0 0 0) n (by omega) (by omega) (by omega) (by omega) (by rw [hb]; omega) (by rw [hb]; exact growslice_fits (by omega) (by omega))
      simpa using h
    have hG := grownCap_ge w n 0 34
    have hG2 := grownCap_le_maxLen w n 0 34 (by unfold maxLen; omega)
    generalize grownCap w n 0 34 = G at *
    have hG3 : G ≤ 9223372036854775807 := by unfold maxLen at hG2; omega
    have h1 : ¬ ((n : Int) < 0) := by omega
    have h2 : (n : Int) > 0 := by omega
    have h4 : decide ((n : Int) > 0) = true := decide_eq_true h2
    have h5 : decide ((0 : Int) < (n : Int)) = true := decide_eq_true h2
    have h6 : decide ((n : Int) < 0) = false := decide_eq_false h1
    clear hi hz hs hb
    go_enter Tryz.func84, Tryz.ntmps84
    go_wp2_with (at_builtin; refine Lib.wpList_append_run _ rfl _ _ _ _ rfl _ _ rfl rfl _ _ (hrz _) ?_)
    go_ret
    refine ⟨G, .inl ⟨rfl, ⟨rfl, .inr ⟨w.heap.size, G, _, rfl, Nat.le_refl _, blk_new w.drew _, Nat.zero_le _, hG2, ?_, by simp⟩⟩, balloc (bdrew (Below.refl _ _)) _⟩⟩
    simp [Builtin.zeroCells]
    omega
set_option maxRecDepth 100000 in
set_option maxHeartbeats 2000000 in
theorem concat_u64 {D D1 : Nat → Prop} {g : Nat} {T : TypeId} {cap : Nat} (va vb : Value) (a b : List Int) (w : World) (hg : w.heap[g]? = some (.cells #[va, vb] T (0, 0))) (ha : SlU w D va a) (hal : a.length ≤ 1000000) (hb : SlU w D1 vb b) (hbl : b.length ≤ 1000000) :
    Calls Tryz.prog 65 #[.slice (some ⟨g, 0, none⟩) 2 cap] w (OwnPost w (a ++ b)) := by
  have c0 := blk_cell hg 0
  have c1 := blk_cell hg 1
  simp at c0 c1
  have hsa := ha.src u_len u_one (by decide)
  have hsb := hb.src u_len u_one (by decide)
  have HSa := Lib.hid fun (W : World) (hW : Below w.heap.size w W) => hsa.below hW
  have HSb := Lib.hid fun (W : World) (hW : Below w.heap.size w W) => hsb.below hW
  have HC := Lib.hid fun (W : World) (hW : Below w.heap.size w W) => (⟨later hW c0, later hW c1⟩ : W.cell? ⟨g, 0, none⟩ = some va ∧ W.cell? ⟨g, 1, none⟩ = some vb)
  obtain ⟨A, ca, rfl, -⟩ := ha
  obtain ⟨B, cb, rfl, -⟩ := hb
  have HLen : Hid ((a ++ b).length = a.length + b.length) := Lib.hid (by simp)
  have HFl : Hid ((a ++ b).flatMap encU = a.flatMap encU ++ b.flatMap encU) := Lib.hid (by simp)
  unfold OwnPost
  rw [HLen.out, HFl.out]
  generalize a.flatMap encU = fa at *
  generalize b.flatMap encU = fb at *
  generalize a.length = na at *
  generalize b.length = nb at *
  have w1 : wrap64 ((0 : Int) + (na : Int)) = (na : Int) := by unfold wrap64; omega
  have w2 : wrap64 ((na : Int) + (nb : Int)) = ((na + nb : Nat) : Int) := by unfold wrap64; omega
  have d1 : decide ((na : Int) < 0) = false := decide_eq_false (by omega)
  have d2 : decide (((na + nb : Nat) : Int) < 0) = false := decide_eq_false (by omega)
  have hgr := grow_nil (na + nb) w (by omega)
  have HGr := Lib.hid hgr
  have HNa := Lib.hid hal
  have HNb := Lib.hid hbl
  clear hsa hsb hgr hg
  go_enter Tryz.func65, Tryz.ntmps65
  go_wp2_with fail
  refine wp_loop_rounds 3 ?_
  rw [rounds_succ]
  go_wp2_with fail
  rw [rounds_succ]
  go_wp2_with fail
  rw [rounds_succ]
  go_wp2_with fail
  refine HGr.out.mono ?_
  rintro e w1 ⟨c1, ⟨rfl, ho, hb1⟩ | ⟨rfl, rfl⟩⟩
  · have HO := Lib.hid ho
    have HB1 := Lib.hid hb1
    obtain ⟨k0, k1⟩ := HC.out w1 hb1
    have KC := Lib.hid hb1
    clear ho hb1
    go_wp2_with fail
    refine wp_loop_rounds 3 ?_
    rw [rounds_succ]
    go_wp2_with (at_builtin; refine wpList_app (w0 := w) w.heap.size rfl _ _ 36 34 _ 1 8 na fa rfl Tryz.underlying36 info_u64 rfl (by decide) (by decide) (.slice (some ⟨w.heap.size, 0, none⟩) 0 c1) 0 [] ?hs1 ?hx1 HO.out HB1.out HB1.out.size (by have := HNa.out; omega) ?_)
    case hs1 => rfl
    case hx1 => exact HSa.out _ HB1.out
    intro v2 w2' hO2 hB2 hg2 hat2
    obtain ⟨A2, c2, rfl⟩ := own_slice hO2
    have HO2 := Lib.hid hO2
    have HB2 := Lib.hid hB2
    obtain ⟨q0, q1⟩ := HC.out w2' hB2
    clear hO2 hB2 hg2 hat2
    go_wp2_with fail
    rw [rounds_succ]
    go_wp2_with (at_builtin; refine wpList_app (w0 := w) w.heap.size rfl _ _ 36 34 _ 1 8 nb fb rfl Tryz.underlying36 info_u64 rfl (by decide) (by decide) (.slice A2 na c2) na fa ?hs2 ?hx2 HO2.out HB2.out HB2.out.size (by have := HNa.out; have := HNb.out; omega) ?_)
    case hs2 => rfl
    case hx2 => exact HSb.out _ HB2.out
    intro v3 w3' hO3 hB3 hg3 hat3
    obtain ⟨A3, c3, rfl⟩ := own_slice hO3
    have HO3 := Lib.hid hO3
    have HB3 := Lib.hid hB3
    clear hO3 hB3 hg3 hat3
    go_wp2_with fail
    rw [rounds_succ]
    go_wp2_with fail
    go_ret
    exact ⟨_, rfl, by simpa using HO3.out, HB3.out⟩
  · have HO : Hid (w1.ownsRow w1.heap.size 34 1 (.slice none 0 0) 0 []) := Lib.hid ⟨rfl, .inl ⟨rfl, rfl⟩⟩
    have HB1 : Hid (Below w1.heap.size w1 w1) := Lib.hid (Below.refl _ _)
    obtain ⟨k0, k1⟩ := HC.out w1 (Below.refl _ _)
    go_wp2_with fail
    refine wp_loop_rounds 3 ?_
    rw [rounds_succ]
    go_wp2_with (at_builtin; refine wpList_app (w0 := w1) w1.heap.size rfl _ _ 36 34 _ 1 8 na fa rfl Tryz.underlying36 info_u64 rfl (by decide) (by decide) (.slice none 0 0) 0 [] ?hs3 ?hx3 HO.out HB1.out HB1.out.size (by have := HNa.out; omega) ?_)
    case hs3 => rfl
    case hx3 => exact HSa.out _ HB1.out
    intro v2 w2' hO2 hB2 hg2 hat2
    obtain ⟨A2, c2, rfl⟩ := own_slice hO2
    have HO2 := Lib.hid hO2
    have HB2 := Lib.hid hB2
    obtain ⟨q0, q1⟩ := HC.out w2' hB2
    clear hO2 hB2 hg2 hat2
    go_wp2_with fail
    rw [rounds_succ]
    go_wp2_with (at_builtin; refine wpList_app (w0 := w1) w1.heap.size rfl _ _ 36 34 _ 1 8 nb fb rfl Tryz.underlying36 info_u64 rfl (by decide) (by decide) (.slice A2 na c2) na fa ?hs4 ?hx4 HO2.out HB2.out HB2.out.size (by have := HNa.out; have := HNb.out; omega) ?_)
    case hs4 => rfl
    case hx4 => exact HSb.out _ HB2.out
    intro v3 w3' hO3 hB3 hg3 hat3
    obtain ⟨A3, c3, rfl⟩ := own_slice hO3
    have HO3 := Lib.hid hO3
    have HB3 := Lib.hid hB3
    clear hO3 hB3 hg3 hat3
    go_wp2_with fail
    rw [rounds_succ]
    go_wp2_with fail
    go_ret
    exact ⟨_, rfl, by simpa using HO3.out, HB3.out⟩
set_option maxRecDepth 100000 in
set_option maxHeartbeats 1000000 in
theorem post_or {D D1 : Nat → Prop} (va vb : Value) (a b : List Int) (w : World) (ha : SlU w D va a) (hal : a.length ≤ 400000) (hb : SlU w D1 vb b) (hbl : b.length ≤ 400000) :
    Calls Tryz.prog 36 #[va, vb] w (OwnPost w (orF a b)) := by
  obtain ⟨W, hW⟩ : ∃ W, W = w.alloc (.cells #[va, vb] 36) := ⟨_, rfl⟩
  have hB : Below w.heap.size w W := by rw [hW]; exact balloc (Below.refl _ _) _
  have hg : W.heap[w.heap.size]? = some (.cells #[va, vb] 36 (0, 0)) := by rw [hW]; exact blk_new w _
  have hcc := concat_u64 (cap := 2) va vb a b W hg (ha.below hB) (by omega) (hb.below hB) (by omega)
  unfold OwnPost at hcc
  have HCc := Lib.hid hcc
  have HB := Lib.hid hB
  have HSt := Lib.hid fun (w1 : World) (v1 : Value) (h : SlU w1 (fun k => W.heap.size ≤ k) v1 (a ++ b)) => post_set v1 (a ++ b) w1 h (by rw [List.length_append]; omega)
  have HS := Lib.hid hW
  obtain ⟨A, ca, rfl, -⟩ := ha
  obtain ⟨B, cb, rfl, -⟩ := hb
  have HF : Hid (orF a b = setF (a ++ b)) := Lib.hid rfl
  unfold OwnPost
  rw [HF.out]
  generalize a ++ b = ab at *
  generalize a.length = na at *
  generalize b.length = nb at *
  clear hcc hB hg hal hbl
  go_enter Tryz.func36, Tryz.ntmps36
  go_wp2_with fail
  rw [← hW]
  refine HCc.out.mono ?_
  rintro e w1 ⟨v1, rfl, ho1, hb1⟩
  have hst := HSt.out w1 v1 (own_slc encU_len rfl ho1)
  unfold OwnPost at hst
  have HS1 := Lib.hid hst
  obtain ⟨A1, c1, rfl⟩ := own_slice ho1
  have HB1 := Lib.hid (bthen HB.out hb1)
  clear hst ho1 hb1 hW
  go_wp2_with fail
  refine HS1.out.mono ?_
  rintro e w2 ⟨v2, rfl, ho2, hb2⟩
  have HO2 := Lib.hid ho2
  have HB2 := Lib.hid (bthen HB1.out hb2)
  clear ho2 hb2
  go_wp2_with fail
  go_ret
  exact ⟨_, rfl, own_base HO2.out HB1.out.size, HB2.out⟩
end Go.Proofs.YtlhmdgaohonpbaaGreatDoor
