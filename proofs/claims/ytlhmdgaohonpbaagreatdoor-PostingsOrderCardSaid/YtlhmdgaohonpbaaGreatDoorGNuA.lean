import Derived.Test.YtlhmdgaohonpbaaGreatDoorGPi
import Derived.Test.YtlhmdgaohonpbaaGreatDoorGCo
import Derived.Test.YtlhmdgaohonpbaaGreatDoorGBs
set_option linter.unusedSimpArgs false
set_option linter.unusedVariables false
set_option linter.unusedSectionVars false
/- slices.Clone and Compact of numbers, postings.set, in. -/
namespace Go.Proofs.YtlhmdgaohonpbaaGreatDoor
open Go.RowKit Go.Sort Go.Proofs.YtlhmdgaohonpbaaGreatDoor.MapRaw Go.ChangeMaps

theorem u_len (x : Int) : (encU x).length = 1 := rfl
theorem u_one (x : Int) : ∀ u ∈ encU x, u.oneCell' = true := by intro u hu; simp at hu; subst hu; rfl
def OwnPost (w : World) (l : List Int) (e : Ending) (w' : World) : Prop := ∃ v, e = .returned v ∧ w'.ownsRow w.heap.size 34 1 v l.length (l.flatMap encU) ∧ Below w.heap.size w w'
set_option maxRecDepth 100000 in
set_option maxHeartbeats 400000 in
theorem clone_u64 {D : Nat → Prop} (v : Value) (l : List Int) (w : World) (hv : SlU w D v l) (hl : l.length ≤ 1000000) :
    Calls Tryz.prog 80 #[v] w (OwnPost w l) := by
  have hsrc := hv.src u_len u_one (by decide)
  obtain ⟨A, c, rfl, h1, h2, h3, h4, h5⟩ := hv
  unfold OwnPost
  obtain ⟨n, hn⟩ : ∃ n, n = l.length := ⟨_, rfl⟩
  rw [← hn] at hl hsrc ⊢
  have Hn := Lib.hid hn
  have Hs := Lib.hid hsrc
  cases A with
  | none =>
    have hl0 : l = [] := by
      cases l with
      | nil => rfl
      | cons x r => obtain ⟨b, off, e, _⟩ := h5 0 x rfl; cases e
    subst hl0
    have hc := h3 rfl
    subst hc
    have hn0 : n = 0 := hn
    subst hn0
    clear h1 h2 h3 h4 h5 hn hsrc Hs
    have ks := fun (W : World) => Lib.run_eql_slice_nil (P := Tryz.prog) W 36 34 none 0 0 0 0 Tryz.underlying36
    go_enter Tryz.func80, Tryz.ntmps80
    go_wp2
    go_ret
    exact ⟨_, rfl, ⟨rfl, .inl ⟨rfl, rfl⟩⟩, Below.refl _ _⟩
  | some ad =>
    have ks := fun (W : World) => Lib.run_eql_slice_nil (P := Tryz.prog) W 36 34 (some ad) n c 0 0 Tryz.underlying36
    clear h1 h2 h3 h4 h5 hn hsrc
    go_enter Tryz.func80, Tryz.ntmps80
    go_wp2_with ((refine wpList_app (o := ⟨some 7, _, _, _, _, _⟩) (w0 := w) w.heap.size rfl _ _ 36 34 _ 1 8 n (l.flatMap encU) rfl Tryz.underlying36 info_u64 rfl (by decide) (by decide) (.slice (some ⟨w.heap.size, 0, none⟩) 0 0) 0 [] rfl (Hs.out.below (balloc (Below.refl _ _) _)) (World.ownsRow_lit w #[] 0 (Nat.le_refl _) (by decide) rfl) (balloc (Below.refl _ _) _) (by simp) (by omega) ?_; intro v1 w5 hO hB5 hg5 hat5; simp only [Nat.zero_add, List.nil_append] at hO))
    go_ret
    exact ⟨_, rfl, hO, hB5⟩
theorem own_cut {w : World} {base g n cap k : Nat} {e : TypeId} {xs : List Value} (h : w.ownsRow base e 1 (.slice (some ⟨g, 0, none⟩) n cap) n xs) (hk : k ≤ n) : w.ownsRow base e 1 (.slice (some ⟨g, 0, none⟩) k cap) k (xs.take k) := by
  obtain ⟨h0, h⟩ := h
  refine ⟨by simp at h0 ⊢; omega, ?_⟩
  rcases h with ⟨h, _⟩ | ⟨g', cap', cur, e1, hb, h1, h2, h3, h4, h5⟩
  · cases h
  · simp only [Value.slice.injEq, Option.some.injEq, Addr.mk.injEq] at e1
    obtain ⟨⟨rfl, -⟩, -, hc⟩ := e1
    have hc2 : cap' = cap := by omega
    subst hc2
    refine .inr ⟨g, cap', cur, rfl, hb, h1, by omega, h3, h4, ?_⟩
    rw [← h5, List.take_take]
    congr 1
    omega
theorem compact_own {base n : Nat} {v : Value} {ks : List Int} (w : World) (h : w.ownsRow base 34 1 v n (ks.flatMap encU)) (hn : n = ks.length) (hl : ks.length < 4611686018427387904) :
    Calls Tryz.prog 81 #[v] w fun e w' => ∃ v', e = .returned v' ∧ w'.ownsRow base 34 1 v' (Lib.compact ks).length ((Lib.compact ks).flatMap encU) ∧ w.grownBy w' v.ownBlock := by
  subst hn
  rw [flat_encU] at h
  rcases h.2 with ⟨rfl, h0⟩ | ⟨g, cap, cur, rfl, hbase, hb, h1, h2, h3, h4⟩
  · have hk : ks = [] := List.eq_nil_of_length_eq_zero h0
    subst hk
    refine (Srt.compact_u64_empty none 0 w).mono ?_
    rintro e w' ⟨rfl, rfl⟩
    exact ⟨_, rfl, h, World.grownBy.refl _ _⟩
  · have hH := Srt.holds_of_blockI (ss := ks) hb (by simpa using h4)
    refine (Srt.compact_u64 g 0 cap ks w hH (by omega) h1).mono ?_
    rintro e w' ⟨rfl, q, rfl⟩
    have hcl := compact_len ks
    have hT : (Lib.compact ks ++ List.replicate (ks.length - (Lib.compact ks).length) 0).length = ks.length := by simp; omega
    have hO := Srt.ownsRow_sortedI (n := q) (os := #[]) hT hbase hb h1 h2 (by simpa using h3)
    have hG := Srt.grownBy_sortedI (w := w) (g := g) (n := q) (os := #[]) (Lib.compact ks ++ List.replicate (ks.length - (Lib.compact ks).length) 0).toArray
    have hgr : ∀ W : World, grow W #[] = W := fun W => by simp [grow]
    rw [hgr] at hO hG
    have hc := own_cut hO hcl
    rw [List.map_append, List.take_left' (by simp)] at hc
    rw [flat_encU]
    exact ⟨_, rfl, hc, hG⟩
set_option maxRecDepth 100000 in
set_option maxHeartbeats 400000 in
theorem post_set {D : Nat → Prop} (v : Value) (l : List Int) (w : World) (hv : SlU w D v l) (hl : l.length ≤ 1000000) :
    Calls Tryz.prog 60 #[v] w (OwnPost w (setF l)) := by
  have hc := clone_u64 v l w hv hl
  unfold OwnPost at hc
  have HC := Lib.hid hc
  obtain ⟨A, c, rfl, -⟩ := hv
  have HL := Lib.hid hl
  have Hn : Hid (∃ n, n = l.length) := Lib.hid ⟨_, rfl⟩
  generalize hnl : l.length = nl at *
  have HN := Lib.hid hnl
  clear hc hl hnl
  go_enter Tryz.func60, Tryz.ntmps60
  go_wp2_with fail
  refine HC.out.mono ?_
  rintro e w1 ⟨v1, rfl, ho1, hb1⟩
  have hs := sort_own w1 ho1 HN.out.symm (by have := HL.out; have := HN.out; omega)
  have hk1 := ownsRow_blk ho1
  have HS := Lib.hid hs
  have HB1 := Lib.hid hb1
  have HK1 := Lib.hid hk1
  clear hs ho1 hb1 hk1
  go_wp2_with fail
  refine HS.out.mono ?_
  rintro e w2 ⟨rfl, ho2, hg2⟩
  have hcp := compact_own w2 ho2 (by rw [sorted_len]; exact HN.out.symm) (by rw [sorted_len]; have := HL.out; have := HN.out; omega)
  have HCp := Lib.hid hcp
  have HB2 : Hid (Below w.heap.size w w2) := Lib.hid (HB1.out.grown hg2 HB1.out.size (fun k hk => (HK1.out k hk).1))
  have HK2 := Lib.hid (ownsRow_blk ho2)
  clear hcp ho2 hg2
  go_wp2_with fail
  refine HCp.out.mono ?_
  rintro e w3 ⟨v3, rfl, ho3, hg3⟩
  have HO3 := Lib.hid ho3
  have HB3 : Hid (Below w.heap.size w w3) := Lib.hid (HB2.out.grown hg3 HB2.out.size (fun k hk => (HK2.out k hk).1))
  clear ho3 hg3
  go_wp2_with fail
  go_ret
  exact ⟨_, rfl, HO3.out, HB3.out⟩
end Go.Proofs.YtlhmdgaohonpbaaGreatDoor

/- the law's numbers (are two lists the same?). -/
namespace Go.Proofs.YtlhmdgaohonpbaaGreatDoor
open Go.RowKit Go.Proofs.YtlhmdgaohonpbaaGreatDoor.MapRaw Go.ChangeMaps

set_option maxRecDepth 100000 in
set_option maxHeartbeats 1000000 in
theorem law_numbers {D D1 : Nat → Prop} (va vb : Value) (la lb : List Int) (w : World) (ha : SlU w D va la) (hb : SlU w D1 vb lb) :
    Calls Tryz.prog 18 #[va, vb] w fun e w' => e = .returned (.bool (decide (la = lb))) ∧ Below w.heap.size w w' := by
  obtain ⟨A, cA, rfl, p1, p2, -, -, p5⟩ := ha
  obtain ⟨B, cB, rfl, q1, q2, -, -, q5⟩ := hb
  have HA := Lib.hid fun (W : World) (hW : Below w.heap.size w W) => Rd.below p5 hW
  have HB := Lib.hid fun (W : World) (hW : Below w.heap.size w W) => Rd.below q5 hW
  have ha9 : la.length ≤ 9223372036854775807 := by simp only [maxLen] at p2; omega
  have hb9 : lb.length ≤ 9223372036854775807 := by simp only [maxLen] at q2; omega
  clear p1 p2 p5 q1 q2 q5
  by_cases hlen : la.length = lb.length
  · obtain ⟨n, hn⟩ : ∃ n, n = la.length := ⟨_, rfl⟩
    have hn2 : n = lb.length := hn.trans hlen
    rw [← hn, ← hn2]
    have Hn := Lib.hid hn
    have Hn2 := Lib.hid hn2
    have hnb : n ≤ 9223372036854775807 := by omega
    clear hn hn2 ha9 hb9 hlen
    go_enter Tryz.func18, Tryz.ntmps18
    go_wp2_with fail
    go_loopw [13] (fun i wr => ∃ k : Nat, k ≤ n ∧ i = .int .i64 k ∧ la.take k = lb.take k ∧ ∃ m, wr = w.drewN m) (fun i _ => n - (intOf i).toNat)
    case atStart => exact ⟨0, Nat.zero_le _, rfl, rfl, 0, rfl⟩
    case round =>
      obtain ⟨k, hk, rfl, ht, m, rfl⟩ := hrel
      have Ht := Lib.hid ht
      clear ht
      by_cases hlt : k < n
      · obtain ⟨b, off, e1, c0⟩ := rdU_at (HA.out w (Below.refl _ _)) (k := k) (by rw [← Hn.out]; exact hlt)
        obtain ⟨b', off', e2, c0'⟩ := rdU_at (HB.out w (Below.refl _ _)) (k := k) (by rw [← Hn2.out]; exact hlt)
        cases e1; cases e2
        have HNx : Hid (la[k]'(by rw [← Hn.out]; exact hlt) = lb[k]'(by rw [← Hn2.out]; exact hlt) → la.take (k + 1) = lb.take (k + 1)) := Lib.hid (fun h => by
          rw [List.take_succ_eq_append_getElem (by rw [← Hn.out]; exact hlt), List.take_succ_eq_append_getElem (by rw [← Hn2.out]; exact hlt), Ht.out, h])
        have HNe : Hid (¬ la[k]'(by rw [← Hn.out]; exact hlt) = lb[k]'(by rw [← Hn2.out]; exact hlt) → ¬ la = lb) := Lib.hid (fun h e => by subst e; exact h rfl)
        generalize la[k]'(by rw [← Hn.out]; exact hlt) = x at *
        generalize lb[k]'(by rw [← Hn2.out]; exact hlt) = y at *
        by_cases heq : x = y
        · have hd : (x != y) = false := by simp [heq]
          have hd2 : decide (x = y) = true := by simp [heq]
          have HE := Lib.hid (HNx.out heq)
          clear HNx HNe heq
          go_wp2_with fail
          go_quiet (fail)
          go_wp2_with fail
          go_roundw
          case rel => exact ⟨k + 1, by omega, by go_num, HE.out, _, rfl⟩
          case measure => simp [intOf] <;> omega
        · have hd : (x != y) = true := by simp [heq]
          have hd2 : decide (x = y) = false := by simp [heq]
          have HE := Lib.hid (HNe.out heq)
          clear HNx HNe heq
          go_wp2_with fail
          go_quiet (fail)
          go_wp2_with fail
          go_ret
          exact ⟨ret_bool (by simp [HE.out]), bdr (bdr (Below.refl _ _) _) _⟩
      · go_wp2_with fail
        go_ret
        refine ⟨ret_bool ?_, bdr (Below.refl _ _) _⟩
        have : la = lb := by
          have := Ht.out
          rwa [List.take_of_length_le (by rw [← Hn.out]; omega), List.take_of_length_le (by rw [← Hn2.out]; omega)] at this
        simp [this]
  · have hl0 : ((la.length : Int) == (lb.length : Int)) = false := by simp; omega
    have hl1 : ((la.length : Int) != (lb.length : Int)) = true := by simp; omega
    have hne : ¬ la = lb := fun e => hlen (by rw [e])
    have HD : Hid (decide (la = lb) = false) := Lib.hid (decide_eq_false hne)
    generalize decide (la = lb) = res at *
    generalize la.length = na at *
    generalize lb.length = nb at *
    clear hne hlen HA HB
    go_enter Tryz.func18, Tryz.ntmps18
    go_wp2_with fail
    go_ret
    exact ⟨ret_bool HD.out.symm, Below.refl _ _⟩
end Go.Proofs.YtlhmdgaohonpbaaGreatDoor
