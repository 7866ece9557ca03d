import Derived.Test.YtbjglcdoekbloaaGreatDoorGPtsA
import Derived.Deep.DeepCutAuto
set_option linter.unusedSimpArgs false
set_option linter.unusedVariables false
set_option linter.unusedSectionVars false
/- points.Put: a point of a new time. -/
namespace Go.Proofs.YtbjglcdoekbloaaGreatDoor
open Go.RowKit

set_option maxRecDepth 100000 in
set_option maxHeartbeats 2000000 in
theorem put_new {D : Nat → Prop} (v : Value) (l : List Pt) (p : Pt) (w : World) (hv : SlP w D v l) (hp : p.S ≠ 0) (hr : rightP l = true) (hh : hasP l p.T = false) :
    Calls Tryz.prog 38 #[v, .agg #[.int .i64 p.T, .int .u64 p.V, .int .u64 p.S]] w (PutPost w v l (putF l p)) := by
  obtain ⟨hri, hlen⟩ := rightP_rising hr
  have s0 : (p.S == 0) = false := by simpa using hp
  have hlow := lowP_le l p.T
  by_cases hfull : 65536 ≤ l.length
  · have hpf : putF l p = (l, 0, 5) := by unfold putF; rw [if_neg (by simp [hp, hr]), if_pos hh, if_pos hfull]
    rw [hpf]
    clear hpf
    obtain ⟨A, c, rfl, h1, h2, h3, h4, h5⟩ := hv
    have hA0 := RdP.below h5 (balloc (Below.refl _ _) (.cells #[.int .i64 p.T, .int .u64 p.V, .int .u64 p.S] 68))
    have hcall := points_right A c l _ hA0 (by simp only [maxLen]; omega)
    rw [hr] at hcall
    have hfind : ∀ w1, Below (w.alloc (.cells #[.int .i64 p.T, .int .u64 p.V, .int .u64 p.S] 68)).heap.size (w.alloc (.cells #[.int .i64 p.T, .int .u64 p.V, .int .u64 p.S] 68)) w1 → Calls Tryz.prog 40 #[.slice A l.length c, .int .i64 p.T] w1 fun e w' => e = .returned (.tuple #[.int .i64 (lowP l p.T), .bool false]) ∧ Below w1.heap.size w1 w' := by
      intro w1 hb
      have := points_find A c l p.T w1 (hA0.below hb) (by omega) hri
      rwa [hh] at this
    have hF : (65536 : Int) ≤ (l.length : Int) := by omega
    have HF := Lib.hid hfind
    clear h3 h4 h5 h1 h2 hA0 hfind hh hr hri
    go_enter Tryz.func38, Tryz.ntmps38
    go_wp2_with fail
    refine hcall.mono ?_
    rintro e w1 ⟨rfl, hb⟩
    obtain ⟨c0, c1, c2, hB1, hz1⟩ := new3 hb
    go_wp2_with fail
    refine (HF.out w1 hb).mono ?_
    rintro e w2 ⟨rfl, hb2⟩
    go_wp2
    go_ret3
    exact PutPost.same rfl (bthen hB1 hb2)
  · have hpf : putF l p = (l.take (lowP l p.T) ++ p :: l.drop (lowP l p.T), 1, 0) := by unfold putF; rw [if_neg (by simp [hp, hr]), if_pos hh, if_neg hfull]
    rw [hpf]
    clear hpf
    have hF : ¬ (65536 : Int) ≤ (l.length : Int) := by omega
    have hv0 := hv
    obtain ⟨A, c, rfl, h1, h2, h3, h4, h5⟩ := hv
    have hA0 := RdP.below h5 (balloc (Below.refl _ _) (.cells #[.int .i64 p.T, .int .u64 p.V, .int .u64 p.S] 68))
    have hcall := points_right A c l _ hA0 (by simp only [maxLen]; omega)
    rw [hr] at hcall
    have hfind : ∀ w1, Below (w.alloc (.cells #[.int .i64 p.T, .int .u64 p.V, .int .u64 p.S] 68)).heap.size (w.alloc (.cells #[.int .i64 p.T, .int .u64 p.V, .int .u64 p.S] 68)) w1 → Calls Tryz.prog 40 #[.slice A l.length c, .int .i64 p.T] w1 fun e w' => e = .returned (.tuple #[.int .i64 (lowP l p.T), .bool false]) ∧ Below w1.heap.size w1 w' := by
      intro w1 hb
      have := points_find A c l p.T w1 (hA0.below hb) (by omega) hri
      rwa [hh] at this
    have HF := Lib.hid hfind
    obtain ⟨n, hn⟩ : ∃ n, n = l.length := ⟨_, rfl⟩
    obtain ⟨q, hq⟩ : ∃ q, q = lowP l p.T := ⟨_, rfl⟩
    rw [← hn] at hF hlow h1 hlen hcall ⊢
    rw [← hn] at hv0
    rw [← hq] at hlow ⊢
    rw [← hn, ← hq] at HF
    obtain ⟨hsl1, hsl2⟩ := slc_head (kl := .i64) (enc := Pt.enc) Tryz.underlying54 size_pt A n c q hlow h1
    obtain ⟨A1, htl1, htl2⟩ := slc_tail (kl := .i64) (enc := Pt.enc) Tryz.underlying54 size_pt (by decide) A n c q hlow h1
    have HV := Lib.hid hv0
    have Hn := Lib.hid hn
    have Hs2 := Lib.hid hsl2
    have Ht2 := Lib.hid htl2
    obtain ⟨i0, hi, hz0, hz1, hz2⟩ := info_parts info_pt
    have hFb : decide ((65536 : Int) ≤ (n : Int)) = false := by simpa using hF
    have hqc : q ≤ c := by omega
    have hb2' : i0.bytes * (n + 1) ≤ 281474976710656 := by rw [hz2]; omega
    have hb3' : n + 1 ≤ maxLen := by simp only [maxLen]; omega
    have Hb2 := Lib.hid hb2'
    have Hb3 := Lib.hid hb3'
    have hn9 : (n : Int) ≤ 100000 := by omega
    have Hlen := Lib.hid hlen
    clear h3 h4 h5 hA0 hfind hh hr hri hn hq hsl2 htl2 hv0 hfull hF hlen hb2' hb3' hp
    go_enter Tryz.func38, Tryz.ntmps38
    go_wp2_with fail
    refine hcall.mono ?_
    rintro e w1 ⟨rfl, hb⟩
    obtain ⟨c0, c1, c2, hB1, hzz1⟩ := new3 hb
    go_wp2_with fail
    refine (HF.out w1 hb).mono ?_
    rintro e w2 ⟨rfl, hb2⟩
    have d0 := later hb2 c0
    have d1 := later hb2 c1
    have d2 := later hb2 c2
    have hB2 := bthen hB1 hb2
    have hzz2 : w.heap.size < w2.heap.size := Nat.lt_of_lt_of_le hzz1 hb2.size
    clear c0 c1 c2 hb2 hb hcall
    go_wp2_with (at_make; refine wpList_make_own _ rfl _ _ 54 rfl w.heap.size 68 i0 _ 3 Tryz.underlying54 hi hz0 hz1 .i64 .i64 _ (n + 1) rfl rfl (by simp) Hb2.out Hb3.out hB2.size ?_; intro w3 hO hg; have hB3 := bthen hB2 (grown_below hg); have e0 := later (grown_below hg) d0; have e1 := later (grown_below hg) d1; have e2 := later (grown_below hg) d2; clear d0 d1 d2)
    have hV3 := HV.out.below hB3
    have hS1 := (Hs2.out w3 D l Hn.out hV3).src pt_len pt_one (by decide)
    have hlq : (l.take q).length = q := by rw [List.length_take, ← Hn.out]; omega
    rw [hlq] at hS1
    have HS1 := Lib.hid hS1
    clear hS1 hlq hV3
    have r0 : Below w3.heap.size w3 w3.drew := bdrew (Below.refl _ _)
    have r1 : Below w3.heap.size w3 (w3.alloc (.cells #[.int .i64 p.T, .int .u64 p.V, .int .u64 p.S] 68)).drew := bdrew (balloc (Below.refl _ _) _)
    have hw23 : w2.heap.size < w3.heap.size := (hO.lt _ rfl).2
    have hne1 : some w.heap.size ≠ (Value.slice (some ⟨w2.heap.size, 0, none⟩) 0 (n + 1)).ownBlock := by show some w.heap.size ≠ some w2.heap.size; intro h; have := Option.some.inj h; omega
    have hne3 : some w3.heap.size ≠ (Value.slice (some ⟨w2.heap.size, 0, none⟩) 0 (n + 1)).ownBlock := by show some w3.heap.size ≠ some w2.heap.size; intro h; have := Option.some.inj h; omega
    have N1 := Lib.hid hne1
    have N3 := Lib.hid hne3
    clear hne1 hne3
    go_cut [9] (fun v wx => ∃ m, m = q + 1 ∧ wx.ownsRow w.heap.size 68 3 v m ((l.take q).flatMap Pt.enc ++ p.enc) ∧ Below w.heap.size w wx)
    case first =>
      go_region_law (first | (refine step_app2 (o := ⟨some 44, _, _, _, _, _⟩) (w0 := w) (W0 := w3) w.heap.size rfl _ _ 54 68 _ 3 24 q ((l.take q).flatMap Pt.enc) rfl Tryz.underlying54 info_pt rfl (by decide) (by decide) (.slice (some ⟨w2.heap.size, 0, none⟩) 0 (n + 1)) 0 [] rfl _ rfl (HS1.out.below (by first | exact r0 | exact r1)) hO hB3 hB3.size (by first | exact r0 | exact r1) (by omega) ?_; intro v1 w4 hO1 hB1 hg1 hat1; have f0 := hg1.cell (later (by first | exact r0 | exact r1) e0) N1.out; have f1 := hg1.cell (later (by first | exact r0 | exact r1) e1) N1.out; have f2 := hg1.cell (later (by first | exact r0 | exact r1) e2) N1.out; (try have hbx := Lib.hid (blk_grown (w := (w3.alloc (.cells #[.int .i64 p.T, .int .u64 p.V, .int .u64 p.S] 68)).drew) (blk_new w3 _) hg1 N3.out))) | (refine step_app2 (o := ⟨some 47, _, _, _, _, _⟩) (w0 := w) (W0 := w4) w.heap.size rfl _ _ 54 68 _ 3 24 1 p.enc rfl Tryz.underlying54 info_pt rfl (by decide) (by decide) v1 (0 + q) _ rfl _ rfl (by first | exact src_block (blk_new _ _) rfl (pt_one p) 1 | exact src_block hbx.out rfl (pt_one p) 1) hO1 hB1 hB1.size (by first | exact Below.refl _ _ | exact balloc (Below.refl _ _) _) (by omega) ?_; intro v2 w5 hO2 hB2 hg2 hat2))
      all_goals (go_wp2_with fail; go_meet; exact ⟨0 + q + 1, (by omega), (by simpa using hO2), hB2⟩)
    case rest =>
      obtain ⟨m, rfl, hO2, hB2⟩ := hcut
      have hS2 := (Ht2.out wc D l Hn.out (HV.out.below hB2)).src pt_len pt_one (by decide)
      have hld : (l.drop q).length = n - q := by rw [List.length_drop, ← Hn.out]
      rw [hld] at hS2
      have HS2 := Lib.hid hS2
      clear hS2 hld
      go_wp2_with ((refine wpList_app (o := ⟨some 52, _, _, _, _, _⟩) (w0 := w) w.heap.size rfl _ _ 54 68 _ 3 24 (n - q) ((l.drop q).flatMap Pt.enc) rfl Tryz.underlying54 info_pt rfl (by decide) (by decide) _ (q + 1) _ rfl HS2.out hO2 hB2 hB2.size (by omega) ?_; intro v3 w6 hO3 hB3' hg3 hat3))
      go_ret3
      refine ⟨_, rfl, hB3', fun D' hD' hnew => (own_slc (n := q + 1 + (n - q)) (e := 68) pt_len (l := l.take q ++ p :: l.drop q) ?_ ?_).mono (fun k _ hk => hnew k hk)⟩
      · simp only [List.length_append, List.length_take, List.length_cons, List.length_drop, ← Hn.out]; omega
      · simpa [List.flatMap_append, List.flatMap_cons] using hO3
end Go.Proofs.YtbjglcdoekbloaaGreatDoor

/- points.Put: a point of a time that is there; the whole. -/
namespace Go.Proofs.YtbjglcdoekbloaaGreatDoor
open Go.RowKit

structure FoundAt (l : List Pt) (p q : Pt) (i : Nat) : Prop where
  lt : i < l.length
  eq : i = lowP l p.T
  get : l[i]? = some q
  T : q.T = p.T
theorem found_of {l : List Pt} {p : Pt} (h : hasP l p.T = true) : ∃ q i, FoundAt l p q i := by
  unfold hasP at h
  cases hx : l[lowP l p.T]? with
  | none => rw [hx] at h; cases h
  | some q => rw [hx] at h; exact ⟨q, _, (List.getElem?_eq_some_iff.1 hx).1, rfl, hx, by simpa using h⟩

set_option maxRecDepth 100000 in
set_option maxHeartbeats 2000000 in
theorem put_stay {D : Nat → Prop} (v : Value) (l : List Pt) (p q : Pt) (i : Nat) (w : World) (hv : SlP w D v l) (hp : p.S ≠ 0) (hr : rightP l = true) (hh : hasP l p.T = true) (hf : FoundAt l p q i) (hs : p = q ∨ aheadB p q = false) :
    Calls Tryz.prog 38 #[v, .agg #[.int .i64 p.T, .int .u64 p.V, .int .u64 p.S]] w (PutPost w v l (l, toldF p q, 0)) := by
  obtain ⟨hri, hlen⟩ := rightP_rising hr
  have s0 : (p.S == 0) = false := by simpa using hp
  obtain ⟨A, c, rfl, h1, h2, h3, h4, h5⟩ := hv
  have hA0 := RdP.below h5 (balloc (Below.refl _ _) (.cells #[.int .i64 p.T, .int .u64 p.V, .int .u64 p.S] 68))
  have hcall := points_right A c l _ hA0 (by simp only [maxLen]; omega)
  rw [hr] at hcall
  have hfind : ∀ w1, Below (w.alloc (.cells #[.int .i64 p.T, .int .u64 p.V, .int .u64 p.S] 68)).heap.size (w.alloc (.cells #[.int .i64 p.T, .int .u64 p.V, .int .u64 p.S] 68)) w1 →
      (Calls Tryz.prog 40 #[.slice A l.length c, .int .i64 p.T] w1 fun e w' => e = .returned (.tuple #[.int .i64 i, .bool true]) ∧ Below w1.heap.size w1 w') := by
    intro w1 hb
    have := points_find A c l p.T w1 (hA0.below hb) (by omega) hri
    rwa [hh, ← hf.eq] at this
  have hcells : ∀ w1, Below w.heap.size w w1 → ∃ b off, A = some ⟨b, off, none⟩ ∧ w1.cell? ⟨b, off + i * 3, none⟩ = some (.int .i64 q.T) ∧ w1.cell? ⟨b, off + i * 3 + 1, none⟩ = some (.int .u64 q.V) ∧ w1.cell? ⟨b, off + i * 3 + 2, none⟩ = some (.int .u64 q.S) := by
    intro w1 hb
    have hg : l[i]'hf.lt = q := by have := hf.get; rw [List.getElem?_eq_getElem hf.lt] at this; exact Option.some.inj this
    have := (RdP.below h5 hb).at_ hf.lt
    rwa [hg] at this
  have HF := Lib.hid hfind
  have HC := Lib.hid hcells
  obtain ⟨n, hn⟩ : ∃ n, n = l.length := ⟨_, rfl⟩
  have hil : i < n := by rw [hn]; exact hf.lt
  have hn9 : (n : Int) ≤ 100000 := by omega
  rw [← hn] at hcall ⊢
  rw [← hn] at HF
  have he := fun W => run_eql_pt W p q
  have hg := fun W op x y xs ys => run_guard_pt W op x y xs ys
  have hah := fun W => points_ahead p q W
  clear h1 h2 h3 h4 h5 hA0 hfind hcells hn hlen hri hp hh hr
  have htold : toldF p q = 2 ∧ (q.V == p.V) = true ∨ (q.V == p.V) = false ∧ (toldF p q = 3 ∧ aheadB p q = true ∨ toldF p q = 4 ∧ aheadB p q = false) := by
    unfold toldF
    by_cases h : q.V = p.V
    · left; simp [h]
    · right; simp only [h, if_false]; refine ⟨by simpa using h, ?_⟩
      cases aheadB p q <;> simp
  clear hf
  by_cases hpq : p = q
  · have hd : decide (p = q) = true := by simpa using hpq
    simp only [hd] at he
    clear hs hd
    subst hpq
    have hv2 : (p.V == p.V) = true := by simp
    have ht2 : toldF p p = 2 := by simp [toldF]
    rw [ht2]
    clear htold ht2 hah
    go_enter Tryz.func38, Tryz.ntmps38
    go_wp2_with fail
    refine hcall.mono ?_
    rintro e w1 ⟨rfl, hb⟩
    obtain ⟨c0, c1, c2, hB1, hz1⟩ := new3 hb
    go_wp2_with fail
    refine (HF.out w1 hb).mono ?_
    rintro e w2 ⟨rfl, hb2⟩
    have d0 := later hb2 c0
    have d1 := later hb2 c1
    have d2 := later hb2 c2
    have hB2 := bthen hB1 hb2
    have hz2 : w.heap.size < w2.heap.size := Nat.lt_of_lt_of_le hz1 hb2.size
    obtain ⟨b, off, rfl, p0, p1, p2⟩ := HC.out w2 hB2
    clear c0 c1 c2 hb hb2 hcall HF HC
    go_wp2
    go_ret3
    exact PutPost.same rfl (balloc hB2 _)
  · have hs' : aheadB p q = false := by rcases hs with h | h; exact absurd h hpq; exact h
    have hd : decide (p = q) = false := by simpa using hpq
    simp only [hd] at he
    have Ha := Lib.hid hs'
    clear hs hd hpq
    rcases htold with ⟨ht, hv2⟩ | ⟨hv2, ⟨ht, ha⟩ | ⟨ht, ha⟩⟩
    · rw [ht]
      clear ht hs'
      go_enter Tryz.func38, Tryz.ntmps38
      go_wp2_with fail
      refine hcall.mono ?_
      rintro e w1 ⟨rfl, hb⟩
      obtain ⟨c0, c1, c2, hB1, hz1⟩ := new3 hb
      go_wp2_with fail
      refine (HF.out w1 hb).mono ?_
      rintro e w2 ⟨rfl, hb2⟩
      have d0 := later hb2 c0
      have d1 := later hb2 c1
      have d2 := later hb2 c2
      have hB2 := bthen hB1 hb2
      have hz2 : w.heap.size < w2.heap.size := Nat.lt_of_lt_of_le hz1 hb2.size
      obtain ⟨b, off, rfl, p0, p1, p2⟩ := HC.out w2 hB2
      clear c0 c1 c2 hb hb2 hcall HF HC
      go_wp2_with fail
      refine (hah _).mono ?_
      rw [Ha.out]
      rintro e w3 ⟨rfl, hb3⟩
      go_wp2
      go_ret3
      exact PutPost.same rfl (bthen (balloc hB2 _) hb3)
    · rw [hs'] at ha; cases ha
    · rw [ht]
      clear ht hs' ha
      go_enter Tryz.func38, Tryz.ntmps38
      go_wp2_with fail
      refine hcall.mono ?_
      rintro e w1 ⟨rfl, hb⟩
      obtain ⟨c0, c1, c2, hB1, hz1⟩ := new3 hb
      go_wp2_with fail
      refine (HF.out w1 hb).mono ?_
      rintro e w2 ⟨rfl, hb2⟩
      have d0 := later hb2 c0
      have d1 := later hb2 c1
      have d2 := later hb2 c2
      have hB2 := bthen hB1 hb2
      have hz2 : w.heap.size < w2.heap.size := Nat.lt_of_lt_of_le hz1 hb2.size
      obtain ⟨b, off, rfl, p0, p1, p2⟩ := HC.out w2 hB2
      clear c0 c1 c2 hb hb2 hcall HF HC
      go_wp2_with fail
      refine (hah _).mono ?_
      rw [Ha.out]
      rintro e w3 ⟨rfl, hb3⟩
      obtain ⟨q0, q1, q2, hB3, hz3⟩ := new3 hb3
      have f0 := later hB3 d0
      have f1 := later hB3 d1
      have f2 := later hB3 d2
      go_wp2_with fail
      refine (hah _).mono ?_
      rw [Ha.out]
      rintro e w4 ⟨rfl, hb4⟩
      go_wp2
      go_ret3
      exact PutPost.same rfl (bthen (bthen hB2 hB3) hb4)
end Go.Proofs.YtbjglcdoekbloaaGreatDoor
