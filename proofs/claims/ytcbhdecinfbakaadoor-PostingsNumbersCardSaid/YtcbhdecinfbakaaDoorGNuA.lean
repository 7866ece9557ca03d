import Derived.Test.YtcbhdecinfbakaaDoorGPi
import Derived.Test.YtcbhdecinfbakaaDoorGCo
import Derived.Test.YtcbhdecinfbakaaDoorGBs
set_option linter.unusedSimpArgs false
set_option linter.unusedVariables false
set_option linter.unusedSectionVars false
/- slices.Clone and Compact of numbers, postings.set, in. -/
namespace Go.Proofs.YtcbhdecinfbakaaDoor
open Go.RowKit Go.Sort Go.Proofs.YtcbhdecinfbakaaDoor.MapRaw Go.ChangeMaps

theorem u_len (x : Int) : (encU x).length = 1 := rfl
theorem u_one (x : Int) : ∀ u ∈ encU x, u.oneCell' = true := by intro u hu; simp at hu; subst hu; rfl
def OwnPost (w : World) (l : List Int) (e : Ending) (w' : World) : Prop := ∃ v, e = .returned v ∧ w'.ownsRow w.heap.size 30 1 v l.length (l.flatMap encU) ∧ Below w.heap.size w w'
set_option maxRecDepth 100000 in
set_option maxHeartbeats 400000 in
theorem clone_u64 {D : Nat → Prop} (v : Value) (l : List Int) (w : World) (hv : SlU w D v l) (hl : l.length ≤ 1000000) :
    Calls Tryd.prog 34 #[v] w (OwnPost w l) := by
  have hsrc := hv.src u_len u_one (by decide)
  obtain ⟨A, c, rfl, h1, h2, h3, h4, h5⟩ := hv
  unfold OwnPost
  obtain ⟨n, hn⟩ : ∃ n, n = l.length := ⟨_, rfl⟩
  rw [← hn] at hl hsrc ⊢
  have Hn := Lib.hid hn
  have Hs := Lib.hid hsrc
  cases A with
  | none =>
    have hl0 : l = [] := by
      cases l with
      | nil => rfl
      | cons x r => obtain ⟨b, off, e, _⟩ := h5 0 x rfl; cases e
    subst hl0
    have hc := h3 rfl
    subst hc
    have hn0 : n = 0 := hn
    subst hn0
    clear h1 h2 h3 h4 h5 hn hsrc Hs
    have ks := fun (W : World) => Lib.run_eql_slice_nil (P := Tryd.prog) W 22 30 none 0 0 0 0 Tryd.underlying22
    go_enter Tryd.func34, Tryd.ntmps34
    go_wp2
    go_ret
    exact ⟨_, rfl, ⟨rfl, .inl ⟨rfl, rfl⟩⟩, Below.refl _ _⟩
  | some ad =>
    have ks := fun (W : World) => Lib.run_eql_slice_nil (P := Tryd.prog) W 22 30 (some ad) n c 0 0 Tryd.underlying22
    clear h1 h2 h3 h4 h5 hn hsrc
    go_enter Tryd.func34, Tryd.ntmps34
    go_wp2_with ((refine wpList_app (o := ⟨some 7, _, _, _, _, _⟩) (w0 := w) w.heap.size rfl _ _ 22 30 _ 1 8 n (l.flatMap encU) rfl Tryd.underlying22 info_u64 rfl (by decide) (by decide) (.slice (some ⟨w.heap.size, 0, none⟩) 0 0) 0 [] rfl (Hs.out.below (balloc (Below.refl _ _) _)) (World.ownsRow_lit w #[] 0 (Nat.le_refl _) (by decide) rfl) (balloc (Below.refl _ _) _) (by simp) (by omega) ?_; intro v1 w5 hO hB5 hg5 hat5; simp only [Nat.zero_add, List.nil_append] at hO))
    go_ret
    exact ⟨_, rfl, hO, hB5⟩
theorem own_cut {w : World} {base g n cap k : Nat} {e : TypeId} {xs : List Value} (h : w.ownsRow base e 1 (.slice (some ⟨g, 0, none⟩) n cap) n xs) (hk : k ≤ n) : w.ownsRow base e 1 (.slice (some ⟨g, 0, none⟩) k cap) k (xs.take k) := by
  obtain ⟨h0, h⟩ := h
  refine ⟨by simp at h0 ⊢; omega, ?_⟩
  rcases h with ⟨h, _⟩ | ⟨g', cap', cur, e1, hb, h1, h2, h3, h4, h5⟩
  · cases h
  · simp only [Value.slice.injEq, Option.some.injEq, Addr.mk.injEq] at e1
    obtain ⟨⟨rfl, -⟩, -, hc⟩ := e1
    have hc2 : cap' = cap := by omega
    subst hc2
    refine .inr ⟨g, cap', cur, rfl, hb, h1, by omega, h3, h4, ?_⟩
    rw [← h5, List.take_take]
    congr 1
    omega
theorem compact_own {base n : Nat} {v : Value} {ks : List Int} (w : World) (h : w.ownsRow base 30 1 v n (ks.flatMap encU)) (hn : n = ks.length) (hl : ks.length < 4611686018427387904) :
    Calls Tryd.prog 35 #[v] w fun e w' => ∃ v', e = .returned v' ∧ w'.ownsRow base 30 1 v' (Lib.compact ks).length ((Lib.compact ks).flatMap encU) ∧ w.grownBy w' v.ownBlock := by
  subst hn
  rw [flat_encU] at h
  rcases h.2 with ⟨rfl, h0⟩ | ⟨g, cap, cur, rfl, hbase, hb, h1, h2, h3, h4⟩
  · have hk : ks = [] := List.eq_nil_of_length_eq_zero h0
    subst hk
    refine (Srt.compact_u64_empty none 0 w).mono ?_
    rintro e w' ⟨rfl, rfl⟩
    exact ⟨_, rfl, h, World.grownBy.refl _ _⟩
  · have hH := Srt.holds_of_blockI (ss := ks) hb (by simpa using h4)
    refine (Srt.compact_u64 g 0 cap ks w hH (by omega) h1).mono ?_
    rintro e w' ⟨rfl, q, rfl⟩
    have hcl := compact_len ks
    have hT : (Lib.compact ks ++ List.replicate (ks.length - (Lib.compact ks).length) 0).length = ks.length := by simp; omega
    have hO := Srt.ownsRow_sortedI (n := q) (os := #[]) hT hbase hb h1 h2 (by simpa using h3)
    have hG := Srt.grownBy_sortedI (w := w) (g := g) (n := q) (os := #[]) (Lib.compact ks ++ List.replicate (ks.length - (Lib.compact ks).length) 0).toArray
    have hgr : ∀ W : World, grow W #[] = W := fun W => by simp [grow]
    rw [hgr] at hO hG
    have hc := own_cut hO hcl
    rw [List.map_append, List.take_left' (by simp)] at hc
    rw [flat_encU]
    exact ⟨_, rfl, hc, hG⟩
set_option maxRecDepth 100000 in
set_option maxHeartbeats 400000 in
theorem post_set {D : Nat → Prop} (v : Value) (l : List Int) (w : World) (hv : SlU w D v l) (hl : l.length ≤ 1000000) :
    Calls Tryd.prog 17 #[v] w (OwnPost w (setF l)) := by
  have hc := clone_u64 v l w hv hl
  unfold OwnPost at hc
  have HC := Lib.hid hc
  obtain ⟨A, c, rfl, -⟩ := hv
  have HL := Lib.hid hl
  have Hn : Hid (∃ n, n = l.length) := Lib.hid ⟨_, rfl⟩
  generalize hnl : l.length = nl at *
  have HN := Lib.hid hnl
  clear hc hl hnl
  go_enter Tryd.func17, Tryd.ntmps17
  go_wp2_with fail
  refine HC.out.mono ?_
  rintro e w1 ⟨v1, rfl, ho1, hb1⟩
  have hs := sort_own w1 ho1 HN.out.symm (by have := HL.out; have := HN.out; omega)
  have hk1 := ownsRow_blk ho1
  have HS := Lib.hid hs
  have HB1 := Lib.hid hb1
  have HK1 := Lib.hid hk1
  clear hs ho1 hb1 hk1
  go_wp2_with fail
  refine HS.out.mono ?_
  rintro e w2 ⟨rfl, ho2, hg2⟩
  have hcp := compact_own w2 ho2 (by rw [sorted_len]; exact HN.out.symm) (by rw [sorted_len]; have := HL.out; have := HN.out; omega)
  have HCp := Lib.hid hcp
  have HB2 : Hid (Below w.heap.size w w2) := Lib.hid (HB1.out.grown hg2 HB1.out.size (fun k hk => (HK1.out k hk).1))
  have HK2 := Lib.hid (ownsRow_blk ho2)
  clear hcp ho2 hg2
  go_wp2_with fail
  refine HCp.out.mono ?_
  rintro e w3 ⟨v3, rfl, ho3, hg3⟩
  have HO3 := Lib.hid ho3
  have HB3 : Hid (Below w.heap.size w w3) := Lib.hid (HB2.out.grown hg3 HB2.out.size (fun k hk => (HK2.out k hk).1))
  clear ho3 hg3
  go_wp2_with fail
  go_ret
  exact ⟨_, rfl, HO3.out, HB3.out⟩
end Go.Proofs.YtcbhdecinfbakaaDoor

/- the law's numbers (are two lists the same?). -/
namespace Go.Proofs.YtcbhdecinfbakaaDoor
open Go.RowKit Go.Proofs.YtcbhdecinfbakaaDoor.MapRaw Go.ChangeMaps

set_option maxRecDepth 100000 in
set_option maxHeartbeats 1000000 in
theorem law_numbers {D D1 : Nat → Prop} (va vb : Value) (la lb : List Int) (w : World) (ha : SlU w D va la) (hb : SlU w D1 vb lb) :
    Calls Tryd.prog 8 #[va, vb] w fun e w' => e = .returned (.bool (decide (la = lb))) ∧ Below w.heap.size w w' := by
  obtain ⟨A, cA, rfl, p1, p2, -, -, p5⟩ := ha
  obtain ⟨B, cB, rfl, q1, q2, -, -, q5⟩ := hb
  have HA := Lib.hid fun (W : World) (hW : Below w.heap.size w W) => Rd.below p5 hW
  have HB := Lib.hid fun (W : World) (hW : Below w.heap.size w W) => Rd.below q5 hW
  have ha9 : la.length ≤ 9223372036854775807 := by simp only [maxLen] at p2; omega
  have hb9 : lb.length ≤ 9223372036854775807 := by simp only [maxLen] at q2; omega
  clear p1 p2 p5 q1 q2 q5
  by_cases hlen : la.length = lb.length
  · obtain ⟨n, hn⟩ : ∃ n, n = la.length := ⟨_, rfl⟩
    have hn2 : n = lb.length := hn.trans hlen
    rw [← hn, ← hn2]
    have Hn := Lib.hid hn
    have Hn2 := Lib.hid hn2
    have hnb : n ≤ 9223372036854775807 := by omega
    clear hn hn2 ha9 hb9 hlen
    go_enter Tryd.func8, Tryd.ntmps8
    go_wp2_with fail
    go_loopw [13] (fun i wr => ∃ k : Nat, k ≤ n ∧ i = .int .i64 k ∧ la.take k = lb.take k ∧ ∃ m, wr = w.drewN m) (fun i _ => n - (intOf i).toNat)
    case atStart => exact ⟨0, Nat.zero_le _, rfl, rfl, 0, rfl⟩
    case round =>
      obtain ⟨k, hk, rfl, ht, m, rfl⟩ := hrel
      have Ht := Lib.hid ht
      clear ht
      by_cases hlt : k < n
      · obtain ⟨b, off, e1, c0⟩ := rdU_at (HA.out w (Below.refl _ _)) (k := k) (by rw [← Hn.out]; exact hlt)
        obtain ⟨b', off', e2, c0'⟩ := rdU_at (HB.out w (Below.refl _ _)) (k := k) (by rw [← Hn2.out]; exact hlt)
        cases e1; cases e2
        have HNx : Hid (la[k]'(by rw [← Hn.out]; exact hlt) = lb[k]'(by rw [← Hn2.out]; exact hlt) → la.take (k + 1) = lb.take (k + 1)) := Lib.hid (fun h => by
          rw [List.take_succ_eq_append_getElem (by rw [← Hn.out]; exact hlt), List.take_succ_eq_append_getElem (by rw [← Hn2.out]; exact hlt), Ht.out, h])
        have HNe : Hid (¬ la[k]'(by rw [← Hn.out]; exact hlt) = lb[k]'(by rw [← Hn2.out]; exact hlt) → ¬ la = lb) := Lib.hid (fun h e => by subst e; exact h rfl)
        generalize la[k]'(by rw [← Hn.out]; exact hlt) = x at *
        generalize lb[k]'(by rw [← Hn2.out]; exact hlt) = y at *
        by_cases heq : x = y
        · have hd : (x != y) = false := by simp [heq]
          have hd2 : decide (x = y) = true := by simp [heq]
          have HE := Lib.hid (HNx.out heq)
          clear HNx HNe heq
          go_wp2_with fail
          go_quiet (fail)
          go_wp2_with fail
          go_roundw
          case rel => exact ⟨k + 1, by omega, by go_num, HE.out, _, rfl⟩
          case measure => simp [intOf] <;> omega
        · have hd : (x != y) = true := by simp [heq]
          have hd2 : decide (x = y) = false := by simp [heq]
          have HE := Lib.hid (HNe.out heq)
          clear HNx HNe heq
          go_wp2_with fail
          go_quiet (fail)
          go_wp2_with fail
          go_ret
          exact ⟨ret_bool (by simp [HE.out]), bdr (bdr (Below.refl _ _) _) _⟩
      · go_wp2_with fail
        go_ret
        refine ⟨ret_bool ?_, bdr (Below.refl _ _) _⟩
        have : la = lb := by
          have := Ht.out
          rwa [List.take_of_length_le (by rw [← Hn.out]; omega), List.take_of_length_le (by rw [← Hn2.out]; omega)] at this
        simp [this]
  · have hl0 : ((la.length : Int) == (lb.length : Int)) = false := by simp; omega
    have hl1 : ((la.length : Int) != (lb.length : Int)) = true := by simp; omega
    have hne : ¬ la = lb := fun e => hlen (by rw [e])
    have HD : Hid (decide (la = lb) = false) := Lib.hid (decide_eq_false hne)
    generalize decide (la = lb) = res at *
    generalize la.length = na at *
    generalize lb.length = nb at *
    clear hne hlen HA HB
    go_enter Tryd.func8, Tryd.ntmps8
    go_wp2_with fail
    go_ret
    exact ⟨ret_bool HD.out.symm, Below.refl _ _⟩
end Go.Proofs.YtcbhdecinfbakaaDoor

/- the document's lists of numbers: has, with, And, Or, Less. -/
namespace Go.Proofs.YtcbhdecinfbakaaDoor
open Go.RowKit Go.Proofs.YtcbhdecinfbakaaDoor.MapRaw Go.ChangeMaps

set_option maxRecDepth 100000 in
set_option maxHeartbeats 400000 in
theorem ref_has {D : Nat → Prop} (v : Value) (l : List Int) (x : Int) (w : World) (hv : SlU w D v l) (hl : l.length ≤ 1000000) :
    Calls Tryd.prog 23 #[v, .int .u64 x] w fun e w' => e = .returned (.bool (decide (x ∈ l))) ∧ Below w.heap.size w w' := by
  obtain ⟨A, c, rfl, p1, p2, -, -, p5⟩ := hv
  have HRd := Lib.hid fun (W : World) (hW : Below w.heap.size w W) => Rd.below p5 hW
  have hm9 : l.length ≤ 9223372036854775807 := by omega
  have HAny : Hid (decide (x ∈ l) = l.any fun y => y == x) := Lib.hid (Bool.eq_iff_iff.2 (by simp))
  generalize decide (x ∈ l) = res at *
  obtain ⟨m, hm⟩ : ∃ m, m = l.length := ⟨_, rfl⟩
  have Hm := Lib.hid hm
  rw [← hm] at hm9 ⊢
  clear p1 p2 p5 hm hl
  go_enter Tryd.func23, Tryd.ntmps23
  go_wp2_with fail
  go_loopw [9] (fun i wr => ∃ k : Nat, k ≤ m ∧ i = .int .i64 k ∧ AnyTo (fun y : Int => y == x) l k ∧ Below w.heap.size w wr) (fun i _ => m - (intOf i).toNat)
  case atStart => exact ⟨0, Nat.zero_le _, rfl, AnyTo.start _ _, Below.refl _ _⟩
  case round =>
    obtain ⟨k, hk, rfl, hE, hB⟩ := hrel
    have HBr := Lib.hid hB
    by_cases hlt : k < m
    · have hkl : k < l.length := by rw [← Hm.out]; exact hlt
      obtain ⟨b, off, e1, hzc⟩ := rdU_at (HRd.out wr hB) hkl
      cases e1
      have hRd := hE.round hkl
      generalize l[k] = y at *
      have HRnd := Lib.hid hRd
      clear hE hB hRd
      by_cases hyx : y = x
      · have hd : decide (y = x) = true := decide_eq_true hyx
        have hd2 : (y == x) = true := by simpa using hyx
        have HE : Hid (res = true) := Lib.hid (by rw [HAny.out]; rcases HRnd.out with ⟨-, g⟩ | ⟨g, -⟩; exact g; rw [hd2] at g; cases g)
        go_wp2_with fail
        go_ret
        exact ⟨ret_bool HE.out.symm, HBr.out⟩
      · have hd : decide (y = x) = false := decide_eq_false hyx
        have hd2 : (y == x) = false := by simpa using hyx
        have HE : Hid (AnyTo (fun y : Int => y == x) l (k + 1)) := Lib.hid (by rcases HRnd.out with ⟨g, -⟩ | ⟨-, g⟩; rw [hd2] at g; cases g; exact g)
        go_wp2_with fail
        go_roundw
        case rel => exact ⟨k + 1, by omega, by go_num, HE.out, HBr.out⟩
        case measure => simp [intOf] <;> omega
    · have hEd := hE.done (by rw [← Hm.out]; exact hlt)
      have HE : Hid (res = false) := Lib.hid (by rw [HAny.out, hEd])
      clear hE hB hEd
      go_wp2_with fail
      go_ret
      exact ⟨ret_bool HE.out.symm, HBr.out⟩
theorem with_len (l : List Int) (n : Int) : (withF l n).length ≤ l.length + 1 := by
  unfold withF
  split
  · omega
  · rw [List.length_append, List.length_cons]
    have h : ∀ l : List Int, (l.filter (fun x => decide (x < n))).length + (l.filter (fun x => decide (n < x))).length ≤ l.length := by
      intro l
      induction l with
      | nil => simp
      | cons y l ih =>
        simp only [List.filter_cons]
        by_cases h1 : y < n
        · have h2 : ¬ n < y := by omega
          simp only [h1, h2, decide_true, decide_false, if_true, List.length_cons, Bool.false_eq_true, if_false]
          omega
        · by_cases h2 : n < y <;> simp only [h1, h2, decide_true, decide_false, if_true, List.length_cons, Bool.false_eq_true, if_false] <;> omega
    have := h l
    omega
def SetPost (w : World) (D : Nat → Prop) (l : List Int) (e : Ending) (w' : World) : Prop := ∃ v, e = .returned v ∧ SlU w' (fun k => D k ∨ w.heap.size ≤ k) v l ∧ Below w.heap.size w w'
set_option maxRecDepth 100000 in
set_option maxHeartbeats 2000000 in
theorem ref_with {D : Nat → Prop} (v : Value) (l : List Int) (x : Int) (w : World) (hv : SlU w D v l) (hl : l.length ≤ 1000000) :
    Calls Tryd.prog 24 #[v, .int .u64 x] w (SetPost w D (withF l x)) := by
  have hhas := ref_has v l x w hv hl
  have HHas := Lib.hid hhas
  have HV := Lib.hid hv
  have HL := Lib.hid hl
  obtain ⟨A, c, rfl, p1, p2, -, -, p5⟩ := hv
  have HRd := Lib.hid fun (W : World) (hW : Below w.heap.size w W) => Rd.below p5 hW
  have hm9 : l.length ≤ 9223372036854775807 := by omega
  unfold SetPost
  by_cases hx : x ∈ l
  · have HW : Hid (withF l x = l) := Lib.hid (by unfold withF; rw [if_pos hx])
    have hdx : decide (x ∈ l) = true := decide_eq_true hx
    rw [hdx] at HHas
    obtain ⟨m, hm⟩ : ∃ m, m = l.length := ⟨_, rfl⟩
    rw [← hm] at HHas HV hm9 ⊢
    clear p1 p2 p5 hm hl hhas hx hdx HRd
    go_enter Tryd.func24, Tryd.ntmps24
    go_wp2_with fail
    refine HHas.out.mono ?_
    rintro e w1 ⟨rfl, hb⟩
    have HB := Lib.hid hb
    clear hb
    go_wp2_with fail
    go_ret
    refine ⟨_, rfl, ?_, HB.out⟩
    rw [HW.out]
    exact (HV.out.below HB.out).mono (fun _ _ h => .inl h)
  · have HW : Hid (withF l x = l.filter (fun y => decide (y < x)) ++ x :: l.filter (fun y => decide (x < y))) := Lib.hid (by unfold withF; rw [if_neg hx])
    have hdx : decide (x ∈ l) = false := decide_eq_false hx
    rw [hdx] at HHas
    obtain ⟨m, hm⟩ : ∃ m, m = l.length := ⟨_, rfl⟩
    have Hm := Lib.hid hm
    rw [← hm] at HHas hm9 ⊢
    clear p1 p2 p5 hm hl hhas hx hdx
    go_enter Tryd.func24, Tryd.ntmps24
    go_wp2_with fail
    refine HHas.out.mono ?_
    rintro e w1 ⟨rfl, hb⟩
    have HB1 := Lib.hid hb
    have ho := World.ownsRow_lit (base := w.heap.size) (e := 30) (size := 1) w1 #[] 0 hb.size (by decide) rfl
    have HO0 := Lib.hid ho
    have HBa0 := Lib.hid (bthen hb (balloc (Below.refl _ _) (.cells #[] 30)))
    clear hb ho
    go_wp2_with fail
    go_loopw [5, 17] (fun vo i wr => ∃ (k : Nat) (ks : List Int), k ≤ m ∧ i = .int .i64 k ∧ ks = (l.take k).filter (fun y => decide (y < x)) ∧ wr.ownsRow w.heap.size 30 1 vo ks.length (ks.flatMap encU) ∧ Below w.heap.size w wr) (fun _ i _ => m - (intOf i).toNat)
    case atStart => exact ⟨0, [], Nat.zero_le _, rfl, by simp, by simpa using HO0.out, HBa0.out⟩
    case round =>
      obtain ⟨k, ks, hk, rfl, hks, hown, hB⟩ := hrel
      have HBr := Lib.hid hB
      have HOw := Lib.hid hown
      have HKs := Lib.hid hks
      by_cases hlt : k < m
      · have hkl : k < l.length := by rw [← Hm.out]; exact hlt
        obtain ⟨b, off, e1, hzc⟩ := rdU_at (HRd.out wr hB) hkl
        cases e1
        have HNx : Hid ((l.take (k + 1)).filter (fun y => decide (y < x)) = ks ++ if (decide (l[k] < x)) = true then [l[k]] else []) := Lib.hid (by
          rw [List.take_succ_eq_append_getElem hkl, List.filter_append, hks]
          simp only [List.append_assoc, List.filter_cons, List.filter_nil])
        have HLk : Hid (ks.length ≤ 3000000) := Lib.hid (by
          rw [hks]
          have h1 := List.length_filter_le (fun y => decide (y < x)) (l.take k)
          have h2 : (l.take k).length ≤ l.length := by simp [List.length_take]; omega
          have := HL.out
          omega)
        generalize l[k] = y at *
        have hd : ∃ bz, decide (y < x) = bz := ⟨_, rfl⟩
        obtain ⟨bz, hd⟩ := hd
        rw [hd] at HNx
        clear hown hks hB
        cases bz with
        | false =>
          have HN2 : Hid (ks = (l.take (k + 1)).filter (fun y => decide (y < x))) := Lib.hid (by rw [HNx.out]; simp)
          go_wp2_with fail
          go_roundw
          case rel => exact ⟨k + 1, ks, by omega, by go_num, HN2.out, HOw.out, HBr.out⟩
          case measure => simp [intOf] <;> omega
        | true =>
          have HN2 : Hid (ks ++ [y] = (l.take (k + 1)).filter (fun y => decide (y < x))) := Lib.hid (by rw [HNx.out]; simp)
          have HBa : Hid (Below wr.heap.size wr (wr.alloc (.cells #[.int .u64 y] 30))) := Lib.hid (balloc (Below.refl _ _) _)
          have HOa := Lib.hid (own_below HOw.out HBa.out)
          have HSrc : Hid (SrcAt (wr.alloc (.cells #[.int .u64 y] 30)) (.slice (some ⟨wr.heap.size, 0, none⟩) 1 1) 1 1 [.int .u64 y]) := Lib.hid (src_block (m := 1) (size := 1) (blk_new wr (.cells #[.int .u64 y] 30 (0, 0))) rfl (by intro u hu; simp at hu; subst hu; rfl) 1)
          go_wp2_with (at_builtin; refine wpList_app (w0 := w) w.heap.size rfl _ _ 22 30 _ 1 8 1 [.int .u64 y] rfl Tryd.underlying22 info_u64 rfl (by decide) (by decide) u5 ks.length (ks.flatMap encU) ?hs1 ?hx1 HOa.out (HBr.out.trans (HBa.out.mono HBr.out.size)) (by have := HBr.out.size; simp; omega) (by have := HLk.out; omega) ?_)
          try (case hs1 => rfl)
          case hx1 => exact HSrc.out
          intro v3 w6 hO3 hB3 hg3 hat3
          have HO3 := Lib.hid hO3
          have HB3 := Lib.hid hB3
          clear hO3 hB3 hg3 hat3
          go_wp2_with fail
          go_roundw
          case rel => exact ⟨k + 1, ks ++ [y], by omega, by go_num, HN2.out, by simpa using HO3.out, HB3.out⟩
          case measure => simp [intOf] <;> omega
      · have htk : l.take k = l := List.take_of_length_le (by rw [← Hm.out]; omega)
        rw [htk] at hks
        have HKe := Lib.hid hks
        clear hown hks hB htk HKs
        have HBa : Hid (Below wr.heap.size wr (wr.alloc (.cells #[.int .u64 x] 30))) := Lib.hid (balloc (Below.refl _ _) _)
        have HOa := Lib.hid (own_below HOw.out HBa.out)
        have HLk : Hid (ks.length ≤ 1000000) := Lib.hid (by rw [HKe.out]; exact Nat.le_trans (List.length_filter_le _ _) HL.out)
        have HSrc : Hid (SrcAt (wr.alloc (.cells #[.int .u64 x] 30)) (.slice (some ⟨wr.heap.size, 0, none⟩) 1 1) 1 1 [.int .u64 x]) := Lib.hid (src_block (m := 1) (size := 1) (blk_new wr (.cells #[.int .u64 x] 30 (0, 0))) rfl (by intro u hu; simp at hu; subst hu; rfl) 1)
        go_wp2_with (at_builtin; refine wpList_app (w0 := w) w.heap.size rfl _ _ 22 30 _ 1 8 1 [.int .u64 x] rfl Tryd.underlying22 info_u64 rfl (by decide) (by decide) u5 ks.length (ks.flatMap encU) ?hs2 ?hx2 HOa.out (HBr.out.trans (HBa.out.mono HBr.out.size)) (by have := HBr.out.size; simp; omega) (by have := HLk.out; omega) ?_)
        try (case hs2 => rfl)
        case hx2 => exact HSrc.out
        intro v3 w6 hO3 hB3 hg3 hat3
        have HO3 := Lib.hid hO3
        have HB3 := Lib.hid hB3
        clear hO3 hB3 hg3 hat3 HOa HSrc HBa HLk HOw HBr
        go_wp2_with fail
        go_loopw [5, 35] (fun vo i wr => ∃ (k : Nat) (ks : List Int), k ≤ m ∧ i = .int .i64 k ∧ ks = (l.filter (fun y => decide (y < x)) ++ [x]) ++ (l.take k).filter (fun y => decide (x < y)) ∧ wr.ownsRow w.heap.size 30 1 vo ks.length (ks.flatMap encU) ∧ Below w.heap.size w wr) (fun _ i _ => m - (intOf i).toNat)
        case atStart => exact ⟨0, l.filter (fun y => decide (y < x)) ++ [x], Nat.zero_le _, rfl, by simp, by have h := HO3.out; simpa [List.flatMap_append, HKe.out] using h, HB3.out⟩
        case round =>
          obtain ⟨k, ks, hk, rfl, hks, hown, hB⟩ := hrel
          have HBr := Lib.hid hB
          have HOw := Lib.hid hown
          have HKs := Lib.hid hks
          by_cases hlt : k < m
          · have hkl : k < l.length := by rw [← Hm.out]; exact hlt
            obtain ⟨b, off, e1, hzc⟩ := rdU_at (HRd.out wr hB) hkl
            cases e1
            have HNx : Hid ((l.filter (fun y => decide (y < x)) ++ [x]) ++ (l.take (k + 1)).filter (fun y => decide (x < y)) = ks ++ if (decide (x < l[k])) = true then [l[k]] else []) := Lib.hid (by
              rw [List.take_succ_eq_append_getElem hkl, List.filter_append, hks]
              simp only [List.append_assoc, List.filter_cons, List.filter_nil])
            have HLk : Hid (ks.length ≤ 3000000) := Lib.hid (by
              rw [hks]
              have h1 := List.length_filter_le (fun y => decide (x < y)) (l.take k)
              have h2 : (l.take k).length ≤ l.length := by simp [List.length_take]; omega
              have := HL.out
              rw [List.length_append, List.length_append, List.length_singleton]
              have h3 := List.length_filter_le (fun y => decide (y < x)) l
              omega)
            generalize l[k] = y at *
            have hd : ∃ bz, decide (x < y) = bz := ⟨_, rfl⟩
            obtain ⟨bz, hd⟩ := hd
            rw [hd] at HNx
            clear hown hks hB
            cases bz with
            | false =>
              have HN2 : Hid (ks = (l.filter (fun y => decide (y < x)) ++ [x]) ++ (l.take (k + 1)).filter (fun y => decide (x < y))) := Lib.hid (by rw [HNx.out]; simp)
              go_wp2_with fail
              go_roundw
              case rel => exact ⟨k + 1, ks, by omega, by go_num, HN2.out, HOw.out, HBr.out⟩
              case measure => simp [intOf] <;> omega
            | true =>
              have HN2 : Hid (ks ++ [y] = (l.filter (fun y => decide (y < x)) ++ [x]) ++ (l.take (k + 1)).filter (fun y => decide (x < y))) := Lib.hid (by rw [HNx.out]; simp)
              have HBa : Hid (Below wr.heap.size wr (wr.alloc (.cells #[.int .u64 y] 30))) := Lib.hid (balloc (Below.refl _ _) _)
              have HOa := Lib.hid (own_below HOw.out HBa.out)
              have HSrc : Hid (SrcAt (wr.alloc (.cells #[.int .u64 y] 30)) (.slice (some ⟨wr.heap.size, 0, none⟩) 1 1) 1 1 [.int .u64 y]) := Lib.hid (src_block (m := 1) (size := 1) (blk_new wr (.cells #[.int .u64 y] 30 (0, 0))) rfl (by intro u hu; simp at hu; subst hu; rfl) 1)
              go_wp2_with (at_builtin; refine wpList_app (w0 := w) w.heap.size rfl _ _ 22 30 _ 1 8 1 [.int .u64 y] rfl Tryd.underlying22 info_u64 rfl (by decide) (by decide) u5 ks.length (ks.flatMap encU) ?hs3 ?hx3 HOa.out (HBr.out.trans (HBa.out.mono HBr.out.size)) (by have := HBr.out.size; simp; omega) (by have := HLk.out; omega) ?_)
              try (case hs3 => rfl)
              case hx3 => exact HSrc.out
              intro v3 w6 hO3 hB3 hg3 hat3
              have HO3 := Lib.hid hO3
              have HB3 := Lib.hid hB3
              clear hO3 hB3 hg3 hat3
              go_wp2_with fail
              go_roundw
              case rel => exact ⟨k + 1, ks ++ [y], by omega, by go_num, HN2.out, by simpa using HO3.out, HB3.out⟩
              case measure => simp [intOf] <;> omega
          · have htk : l.take k = l := List.take_of_length_le (by rw [← Hm.out]; omega)
            rw [htk] at hks
            have HKe := Lib.hid hks
            clear hown hks hB htk HKs
            go_wp2_with fail
            go_ret
            refine ⟨_, rfl, ?_, HBr.out⟩
            have ho := HOw.out
            rw [HKe.out] at ho
            have hs := own_slc encU_len rfl ho
            rw [HW.out]
            rw [List.append_assoc, List.singleton_append] at hs
            exact hs.mono (fun k _ h => .inr h)
theorem withAll_take {f : Int → Bool} {a : List Int} {k : Nat} (hk : k < a.length) (o : List Int) : withAll f (a.take (k + 1)) o = if f a[k] = true then withF (withAll f (a.take k) o) a[k] else withAll f (a.take k) o := by
  rw [List.take_succ_eq_append_getElem hk]
  unfold withAll
  rw [List.foldl_append]
  rfl
theorem withAll_len (f : Int → Bool) : ∀ (a o : List Int), (withAll f a o).length ≤ o.length + a.length
  | [], o => by simp [withAll]
  | n :: a, o => by
    show (withAll f a (if f n = true then withF o n else o)).length ≤ _
    have h1 := withAll_len f a (if f n = true then withF o n else o)
    have h2 := with_len o n
    rw [List.length_cons]
    split at h1
    · rename_i h; rw [if_pos h]; omega
    · rename_i h; rw [if_neg h]; omega
set_option maxRecDepth 100000 in
set_option maxHeartbeats 1000000 in
theorem ref_and {D D1 : Nat → Prop} (va vb : Value) (a b : List Int) (w : World) (ha : SlU w D va a) (hal : a.length ≤ 400000) (hb : SlU w D1 vb b) (hbl : b.length ≤ 400000) :
    Calls Tryd.prog 9 #[va, vb] w (SetPost w (fun _ => False) (andF a b)) := by
  rw [and_same]
  have HHas := Lib.hid fun (x : Int) (W : World) (hW : Below w.heap.size w W) => ref_has vb b x W (hb.below hW) (by omega)
  have HL := Lib.hid hal
  obtain ⟨A, c, rfl, p1, p2, -, -, p5⟩ := ha
  have HRd := Lib.hid fun (W : World) (hW : Below w.heap.size w W) => Rd.below p5 hW
  have hm9 : a.length ≤ 9223372036854775807 := by omega
  obtain ⟨m, hm⟩ : ∃ m, m = a.length := ⟨_, rfl⟩
  have Hm := Lib.hid hm
  rw [← hm] at hm9 ⊢
  obtain ⟨A2, c2, rfl, -⟩ := hb
  generalize b.length = nb at *
  clear p1 p2 p5 hm hal hbl
  unfold SetPost
  go_enter Tryd.func9, Tryd.ntmps9
  go_wp2_with fail
  go_loopw [5, 10] (fun vo i wr => ∃ (k : Nat) (ks : List Int), k ≤ m ∧ i = .int .i64 k ∧ ks = withAll (fun n => decide (n ∈ b)) (a.take k) [] ∧ SlU wr (fun k => w.heap.size ≤ k) vo ks ∧ Below w.heap.size w wr) (fun _ i _ => m - (intOf i).toNat)
  case atStart => exact ⟨0, [], Nat.zero_le _, rfl, by simp [withAll], ⟨none, 0, rfl, Nat.le_refl _, by simp [maxLen], (fun _ => rfl), (fun ad e => by cases e), fun i x hx => by simp at hx⟩, Below.refl _ _⟩
  case round =>
    obtain ⟨k, ks, hk, rfl, hks, hown, hB⟩ := hrel
    have HBr := Lib.hid hB
    have HOw := Lib.hid hown
    by_cases hlt : k < m
    · have hkl : k < a.length := by rw [← Hm.out]; exact hlt
      obtain ⟨b1, off, e1, hzc⟩ := rdU_at (HRd.out wr hB) hkl
      cases e1
      have hNx := withAll_take (f := fun n => decide (n ∈ b)) hkl []
      rw [← hks] at hNx
      have HLk : Hid (ks.length ≤ 1000000) := Lib.hid (by
        rw [hks]
        have h1 := withAll_len (fun n => decide (n ∈ b)) (a.take k) []
        have h2 : (a.take k).length ≤ a.length := by simp [List.length_take]; omega
        have := HL.out
        simp at h1
        omega)
      generalize a[k] = y at *
      have hh := HHas.out y wr hB
      have HH := Lib.hid hh
      have HNx := Lib.hid hNx
      generalize decide (y ∈ b) = bz at *
      have HU : Hid (∃ A c, u5 = .slice A ks.length c) := Lib.hid (by obtain ⟨A, c, e, -⟩ := hown; exact ⟨A, c, e⟩)
      clear hown hks hB hh hNx
      go_wp2_with fail
      refine HH.out.mono ?_
      rintro e w5 ⟨rfl, hb5⟩
      have HB5 : Hid (Below w.heap.size w w5) := Lib.hid (HBr.out.trans (hb5.mono HBr.out.size))
      have HOw5 := Lib.hid (HOw.out.below hb5)
      clear hb5
      cases bz with
      | false =>
        go_wp2_with fail
        go_roundw
        case rel => exact ⟨k + 1, ks, by omega, by go_num, by rw [HNx.out]; rfl, HOw5.out, HB5.out⟩
        case measure => simp [intOf] <;> omega
      | true =>
        have hw := ref_with u5 ks y w5 HOw5.out HLk.out
        unfold SetPost at hw
        have HWt := Lib.hid hw
        clear hw
        go_wp2_with fail
        refine HWt.out.mono ?_
        rintro e w6 ⟨v6, rfl, hs6, hb6⟩
        have HS6 : Hid (SlU w6 (fun k => w.heap.size ≤ k) v6 (withF ks y)) := Lib.hid (hs6.mono (fun k _ h => h.elim id (fun h => Nat.le_trans HB5.out.size h)))
        have HB6 : Hid (Below w.heap.size w w6) := Lib.hid (HB5.out.trans (hb6.mono HB5.out.size))
        clear hs6 hb6
        go_wp2_with fail
        go_roundw
        case rel => exact ⟨k + 1, withF ks y, by omega, by go_num, by rw [HNx.out]; rfl, HS6.out, HB6.out⟩
        case measure => simp [intOf] <;> omega
    · have htk : a.take k = a := List.take_of_length_le (by rw [← Hm.out]; omega)
      rw [htk] at hks
      have HKe := Lib.hid hks
      clear hown hks hB htk
      go_wp2_with fail
      go_ret
      refine ⟨_, rfl, ?_, HBr.out⟩
      rw [← HKe.out]
      first | exact HOw.out | exact HOw.out.mono (fun k _ h => Or.inr h)
set_option maxRecDepth 100000 in
set_option maxHeartbeats 1000000 in
theorem ref_less {D D1 : Nat → Prop} (va vb : Value) (a b : List Int) (w : World) (ha : SlU w D va a) (hal : a.length ≤ 400000) (hb : SlU w D1 vb b) (hbl : b.length ≤ 400000) :
    Calls Tryd.prog 11 #[va, vb] w (SetPost w (fun _ => False) (lessF a b)) := by
  rw [less_same]
  have HHas := Lib.hid fun (x : Int) (W : World) (hW : Below w.heap.size w W) => ref_has vb b x W (hb.below hW) (by omega)
  have HL := Lib.hid hal
  obtain ⟨A, c, rfl, p1, p2, -, -, p5⟩ := ha
  have HRd := Lib.hid fun (W : World) (hW : Below w.heap.size w W) => Rd.below p5 hW
  have hm9 : a.length ≤ 9223372036854775807 := by omega
  obtain ⟨m, hm⟩ : ∃ m, m = a.length := ⟨_, rfl⟩
  have Hm := Lib.hid hm
  rw [← hm] at hm9 ⊢
  obtain ⟨A2, c2, rfl, -⟩ := hb
  generalize b.length = nb at *
  clear p1 p2 p5 hm hal hbl
  unfold SetPost
  go_enter Tryd.func11, Tryd.ntmps11
  go_wp2_with fail
  go_loopw [5, 10] (fun vo i wr => ∃ (k : Nat) (ks : List Int), k ≤ m ∧ i = .int .i64 k ∧ ks = withAll (fun n => !decide (n ∈ b)) (a.take k) [] ∧ SlU wr (fun k => w.heap.size ≤ k) vo ks ∧ Below w.heap.size w wr) (fun _ i _ => m - (intOf i).toNat)
  case atStart => exact ⟨0, [], Nat.zero_le _, rfl, by simp [withAll], ⟨none, 0, rfl, Nat.le_refl _, by simp [maxLen], (fun _ => rfl), (fun ad e => by cases e), fun i x hx => by simp at hx⟩, Below.refl _ _⟩
  case round =>
    obtain ⟨k, ks, hk, rfl, hks, hown, hB⟩ := hrel
    have HBr := Lib.hid hB
    have HOw := Lib.hid hown
    by_cases hlt : k < m
    · have hkl : k < a.length := by rw [← Hm.out]; exact hlt
      obtain ⟨b1, off, e1, hzc⟩ := rdU_at (HRd.out wr hB) hkl
      cases e1
      have hNx := withAll_take (f := fun n => !decide (n ∈ b)) hkl []
      rw [← hks] at hNx
      have HLk : Hid (ks.length ≤ 1000000) := Lib.hid (by
        rw [hks]
        have h1 := withAll_len (fun n => !decide (n ∈ b)) (a.take k) []
        have h2 : (a.take k).length ≤ a.length := by simp [List.length_take]; omega
        have := HL.out
        simp at h1
        omega)
      generalize a[k] = y at *
      have hh := HHas.out y wr hB
      have HH := Lib.hid hh
      have HNx := Lib.hid hNx
      generalize decide (y ∈ b) = bz at *
      have HU : Hid (∃ A c, u5 = .slice A ks.length c) := Lib.hid (by obtain ⟨A, c, e, -⟩ := hown; exact ⟨A, c, e⟩)
      clear hown hks hB hh hNx
      go_wp2_with fail
      refine HH.out.mono ?_
      rintro e w5 ⟨rfl, hb5⟩
      have HB5 : Hid (Below w.heap.size w w5) := Lib.hid (HBr.out.trans (hb5.mono HBr.out.size))
      have HOw5 := Lib.hid (HOw.out.below hb5)
      clear hb5
      cases bz with
      | true =>
        go_wp2_with fail
        go_roundw
        case rel => exact ⟨k + 1, ks, by omega, by go_num, by rw [HNx.out]; rfl, HOw5.out, HB5.out⟩
        case measure => simp [intOf] <;> omega
      | false =>
        have hw := ref_with u5 ks y w5 HOw5.out HLk.out
        unfold SetPost at hw
        have HWt := Lib.hid hw
        clear hw
        go_wp2_with fail
        refine HWt.out.mono ?_
        rintro e w6 ⟨v6, rfl, hs6, hb6⟩
        have HS6 : Hid (SlU w6 (fun k => w.heap.size ≤ k) v6 (withF ks y)) := Lib.hid (hs6.mono (fun k _ h => h.elim id (fun h => Nat.le_trans HB5.out.size h)))
        have HB6 : Hid (Below w.heap.size w w6) := Lib.hid (HB5.out.trans (hb6.mono HB5.out.size))
        clear hs6 hb6
        go_wp2_with fail
        go_roundw
        case rel => exact ⟨k + 1, withF ks y, by omega, by go_num, by rw [HNx.out]; rfl, HS6.out, HB6.out⟩
        case measure => simp [intOf] <;> omega
    · have htk : a.take k = a := List.take_of_length_le (by rw [← Hm.out]; omega)
      rw [htk] at hks
      have HKe := Lib.hid hks
      clear hown hks hB htk
      go_wp2_with fail
      go_ret
      refine ⟨_, rfl, ?_, HBr.out⟩
      rw [← HKe.out]
      first | exact HOw.out | exact HOw.out.mono (fun k _ h => Or.inr h)
set_option maxRecDepth 100000 in
set_option maxHeartbeats 1000000 in
theorem ref_or {D D1 : Nat → Prop} (va vb : Value) (a b : List Int) (w : World) (ha : SlU w D va a) (hal : a.length ≤ 400000) (hb : SlU w D1 vb b) (hbl : b.length ≤ 400000) :
    Calls Tryd.prog 10 #[va, vb] w (SetPost w (fun _ => False) (orF a b)) := by
  rw [or_same]
  have HL := Lib.hid hal
  have HL2 := Lib.hid hbl
  obtain ⟨A, c, rfl, p1, p2, -, -, p5⟩ := ha
  have HRd := Lib.hid fun (W : World) (hW : Below w.heap.size w W) => Rd.below p5 hW
  have hm9 : a.length ≤ 9223372036854775807 := by omega
  obtain ⟨m, hm⟩ : ∃ m, m = a.length := ⟨_, rfl⟩
  have Hm := Lib.hid hm
  rw [← hm] at hm9 ⊢
  obtain ⟨A2, c2, rfl, q1, q2, -, -, q5⟩ := hb
  have HRd2 := Lib.hid fun (W : World) (hW : Below w.heap.size w W) => Rd.below q5 hW
  have hn9 : b.length ≤ 9223372036854775807 := by omega
  obtain ⟨n, hn⟩ : ∃ n, n = b.length := ⟨_, rfl⟩
  have Hn := Lib.hid hn
  rw [← hn] at hn9 ⊢
  clear p1 p2 p5 hm hal hbl q1 q2 q5 hn
  unfold SetPost
  go_enter Tryd.func10, Tryd.ntmps10
  go_wp2_with fail
  go_loopw [5, 12] (fun vo i wr => ∃ (k : Nat) (ks : List Int), k ≤ m ∧ i = .int .i64 k ∧ ks = withAll (fun _ => true) (a.take k) [] ∧ SlU wr (fun k => w.heap.size ≤ k) vo ks ∧ Below w.heap.size w wr) (fun _ i _ => m - (intOf i).toNat)
  case atStart => exact ⟨0, [], Nat.zero_le _, rfl, by simp [withAll], ⟨none, 0, rfl, Nat.le_refl _, by simp [maxLen], (fun _ => rfl), (fun ad e => by cases e), fun i x hx => by simp at hx⟩, Below.refl _ _⟩
  case round =>
    obtain ⟨k, ks, hk, rfl, hks, hown, hB⟩ := hrel
    have HBr := Lib.hid hB
    have HOw := Lib.hid hown
    by_cases hlt : k < m
    · have hkl : k < a.length := by rw [← Hm.out]; exact hlt
      obtain ⟨b1, off, e1, hzc⟩ := rdU_at (HRd.out wr hB) hkl
      cases e1
      have hNx := withAll_take (f := fun _ => true) hkl []
      rw [← hks] at hNx
      have HLk : Hid (ks.length ≤ 1000000) := Lib.hid (by
        rw [hks]
        have h1 := withAll_len (fun _ => true) (a.take k) []
        have h2 : (a.take k).length ≤ a.length := by simp [List.length_take]; omega
        have := HL.out
        have := HL2.out
        simp only [List.length_nil] at h1
        omega)
      generalize a[k] = y at *
      have HNx := Lib.hid hNx
      have hw := ref_with u5 ks y wr hown HLk.out
      unfold SetPost at hw
      have HWt := Lib.hid hw
      clear hown hks hB hNx hw
      go_wp2_with fail
      refine HWt.out.mono ?_
      rintro e w6 ⟨v6, rfl, hs6, hb6⟩
      have HS6 : Hid (SlU w6 (fun k => w.heap.size ≤ k) v6 (withF ks y)) := Lib.hid (hs6.mono (fun k _ h => h.elim id (fun h => Nat.le_trans HBr.out.size h)))
      have HB6 : Hid (Below w.heap.size w w6) := Lib.hid (HBr.out.trans (hb6.mono HBr.out.size))
      clear hs6 hb6
      go_wp2_with fail
      go_roundw
      case rel => exact ⟨k + 1, withF ks y, by omega, by go_num, by rw [HNx.out]; rfl, HS6.out, HB6.out⟩
      case measure => simp [intOf] <;> omega
    · have htk : a.take k = a := List.take_of_length_le (by rw [← Hm.out]; omega)
      rw [htk] at hks
      have HKe := Lib.hid hks
      clear hown hks hB htk
      go_wp2_with fail
      go_loopw [5, 22] (fun vo i wr => ∃ (k : Nat) (ks : List Int), k ≤ n ∧ i = .int .i64 k ∧ ks = withAll (fun _ => true) (b.take k) (withAll (fun _ => true) a []) ∧ SlU wr (fun k => w.heap.size ≤ k) vo ks ∧ Below w.heap.size w wr) (fun _ i _ => n - (intOf i).toNat)
      case atStart => exact ⟨0, _, Nat.zero_le _, rfl, by rw [HKe.out]; rfl, HOw.out, HBr.out⟩
      case round =>
        obtain ⟨k, ks, hk, rfl, hks, hown, hB⟩ := hrel
        have HBr := Lib.hid hB
        have HOw := Lib.hid hown
        by_cases hlt : k < n
        · have hkl : k < b.length := by rw [← Hn.out]; exact hlt
          obtain ⟨b1, off, e1, hzc⟩ := rdU_at (HRd2.out wr hB) hkl
          cases e1
          have hNx := withAll_take (f := fun _ => true) hkl (withAll (fun _ => true) a [])
          rw [← hks] at hNx
          have HLk : Hid (ks.length ≤ 1000000) := Lib.hid (by
            rw [hks]
            have h1 := withAll_len (fun _ => true) (b.take k) (withAll (fun _ => true) a [])
            have h2 : (b.take k).length ≤ b.length := by simp [List.length_take]; omega
            have := HL.out
            have := HL2.out
            have h3 := withAll_len (fun _ => true) a []
            simp only [List.length_nil] at h3
            omega)
          generalize b[k] = y at *
          have HNx := Lib.hid hNx
          have hw := ref_with u5 ks y wr hown HLk.out
          unfold SetPost at hw
          have HWt := Lib.hid hw
          clear hown hks hB hNx hw
          go_wp2_with fail
          refine HWt.out.mono ?_
          rintro e w6 ⟨v6, rfl, hs6, hb6⟩
          have HS6 : Hid (SlU w6 (fun k => w.heap.size ≤ k) v6 (withF ks y)) := Lib.hid (hs6.mono (fun k _ h => h.elim id (fun h => Nat.le_trans HBr.out.size h)))
          have HB6 : Hid (Below w.heap.size w w6) := Lib.hid (HBr.out.trans (hb6.mono HBr.out.size))
          clear hs6 hb6
          go_wp2_with fail
          go_roundw
          case rel => exact ⟨k + 1, withF ks y, by omega, by go_num, by rw [HNx.out]; rfl, HS6.out, HB6.out⟩
          case measure => simp [intOf] <;> omega
        · have htk : b.take k = b := List.take_of_length_le (by rw [← Hn.out]; omega)
          rw [htk] at hks
          have HKe := Lib.hid hks
          clear hown hks hB htk
          go_wp2_with fail
          go_ret
          refine ⟨_, rfl, ?_, HBr.out⟩
          rw [← HKe.out]
          first | exact HOw.out | exact HOw.out.mono (fun k _ h => Or.inr h)
end Go.Proofs.YtcbhdecinfbakaaDoor
