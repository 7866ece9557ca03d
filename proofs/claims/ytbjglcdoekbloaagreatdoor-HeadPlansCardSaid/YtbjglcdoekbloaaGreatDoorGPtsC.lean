import Derived.Test.YtbjglcdoekbloaaGreatDoorGPtsB
set_option linter.unusedSimpArgs false
set_option linter.unusedVariables false
set_option linter.unusedSectionVars false
/- points.Put: a point that wins; the whole. -/
namespace Go.Proofs.YtbjglcdoekbloaaGreatDoor
open Go.RowKit

theorem flat_set (p : Pt) : ∀ (l : List Pt) (i : Nat), i < l.length → (((l.flatMap Pt.enc).set (i * 3) (.int .i64 p.T)).set (i * 3 + 1) (.int .u64 p.V)).set (i * 3 + 2) (.int .u64 p.S) = (l.set i p).flatMap Pt.enc
  | [], i, h => by simp at h
  | x :: l, 0, _ => by simp [Pt.enc]
  | x :: l, i + 1, h => by
    have ih := flat_set p l i (by simpa using h)
    have e : (i + 1) * 3 = i * 3 + 1 + 1 + 1 := by omega
    simp only [e, List.flatMap_cons, Pt.enc, List.cons_append, List.nil_append, List.set_cons_succ] at *
    rw [ih]
theorem put_cells {w : World} {B g n cap i : Nat} {l : List Pt} {q : Pt} (hg : l[i]? = some q) (hn : n = l.length) (h : w.ownsRow B 68 3 (.slice (some ⟨g, 0, none⟩) n cap) n (l.flatMap Pt.enc)) :
    w.cell? ⟨g, i * 3, none⟩ = some (.int .i64 q.T) ∧ w.cell? ⟨g, i * 3 + 1, none⟩ = some (.int .u64 q.V) ∧ w.cell? ⟨g, i * 3 + 2, none⟩ = some (.int .u64 q.S) := by
  have hi : i < l.length := (List.getElem?_eq_some_iff.1 hg).1
  have hgq : l[i] = q := by rw [List.getElem?_eq_getElem hi] at hg; exact Option.some.inj hg
  have hf := fun r (hr : r < 3) => flat_get pt_len l i r hi hr
  rw [hgq] at hf
  refine ⟨?_, ?_, ?_⟩
  · rw [h.cellAt (i * 3) (by omega)]; have := hf 0 (by omega); simpa [Pt.enc] using this
  · rw [h.cellAt (i * 3 + 1) (by omega)]; have := hf 1 (by omega); simpa [Pt.enc] using this
  · rw [h.cellAt (i * 3 + 2) (by omega)]; have := hf 2 (by omega); simpa [Pt.enc] using this
theorem put_end {w w3 w5 : World} {A : Option Addr} {c g n cap i : Nat} {l : List Pt} {p : Pt} {a : Int} (hO : w5.ownsRow w3.heap.size 68 3 (.slice (some ⟨g, 0, none⟩) n cap) n (l.flatMap Pt.enc)) (hB5 : Below w3.heap.size w3 w5) (hB3 : Below w.heap.size w w3) (hbg : w3.heap.size ≤ g) (hn : n = l.length) (hi : i < l.length) :
    PutPost w (.slice A n c) l (l.set i p, a, 0) (.returned (.tuple #[.slice (some ⟨g, 0, none⟩) n cap, .int .i64 a, .int .i64 0])) (((w5.setCell ⟨g, i * 3, none⟩ (.int .i64 p.T)).setCell ⟨g, i * 3 + 1, none⟩ (.int .u64 p.V)).setCell ⟨g, i * 3 + 2, none⟩ (.int .u64 p.S)) := by
  have s1 := (hO.stored (i * 3) (.int .i64 p.T)).1
  have s2 := (s1.stored (i * 3 + 1) (.int .u64 p.V)).1
  have s3 := (s2.stored (i * 3 + 2) (.int .u64 p.S)).1
  have hg : w.heap.size ≤ g := Nat.le_trans hB3.size hbg
  refine ⟨_, rfl, (((bthen hB3 hB5).setCell hg _).setCell hg _).setCell hg _, fun D' hD' hnew => (own_slc (n := n) (e := 68) pt_len (l := l.set i p) ?_ ?_).mono (fun k _ hk => hnew k (Nat.le_trans hB3.size hk))⟩
  · rw [List.length_set, ← hn]
  · rw [← flat_set p l i hi]; simpa using s3

set_option maxRecDepth 100000 in
set_option maxHeartbeats 2000000 in
theorem put_win {D : Nat → Prop} (v : Value) (l : List Pt) (p q : Pt) (i : Nat) (w : World) (hv : SlP w D v l) (hp : p.S ≠ 0) (hr : rightP l = true) (hh : hasP l p.T = true) (hf : FoundAt l p q i) (hs1 : ¬ p = q) (hs2 : aheadB p q = true) :
    Calls Tryz.prog 38 #[v, .agg #[.int .i64 p.T, .int .u64 p.V, .int .u64 p.S]] w (PutPost w v l (l.set i p, toldF p q, 0)) := by
  obtain ⟨hri, hlen⟩ := rightP_rising hr
  have s0 : (p.S == 0) = false := by simpa using hp
  obtain ⟨A, c, rfl, h1, h2, h3, h4, h5⟩ := hv
  have hA0 := RdP.below h5 (balloc (Below.refl _ _) (.cells #[.int .i64 p.T, .int .u64 p.V, .int .u64 p.S] 68))
  have hcall := points_right A c l _ hA0 (by simp only [maxLen]; omega)
  rw [hr] at hcall
  have hfind : ∀ w1, Below (w.alloc (.cells #[.int .i64 p.T, .int .u64 p.V, .int .u64 p.S] 68)).heap.size (w.alloc (.cells #[.int .i64 p.T, .int .u64 p.V, .int .u64 p.S] 68)) w1 →
      (Calls Tryz.prog 40 #[.slice A l.length c, .int .i64 p.T] w1 fun e w' => e = .returned (.tuple #[.int .i64 i, .bool true]) ∧ Below w1.heap.size w1 w') := by
    intro w1 hb
    have := points_find A c l p.T w1 (hA0.below hb) (by omega) hri
    rwa [hh, ← hf.eq] at this
  have hcells : ∀ w1, Below w.heap.size w w1 → ∃ b off, A = some ⟨b, off, none⟩ ∧ w1.cell? ⟨b, off + i * 3, none⟩ = some (.int .i64 q.T) ∧ w1.cell? ⟨b, off + i * 3 + 1, none⟩ = some (.int .u64 q.V) ∧ w1.cell? ⟨b, off + i * 3 + 2, none⟩ = some (.int .u64 q.S) := by
    intro w1 hb
    have hg : l[i]'hf.lt = q := by have := hf.get; rw [List.getElem?_eq_getElem hf.lt] at this; exact Option.some.inj this
    have := (RdP.below h5 hb).at_ hf.lt
    rwa [hg] at this
  have hsrcs : ∀ w1, Below w.heap.size w w1 → SrcAt w1 (.slice A l.length c) l.length 3 (l.flatMap Pt.enc) := fun w1 hb => Rd.src pt_len pt_one (by decide) (RdP.below h5 hb) h3 (fun ad ha hn => (h4 ad ha hn).1)
  have HS := Lib.hid hsrcs
  have hil0 := hf.lt
  have hget := hf.get
  have HF := Lib.hid hfind
  have HC := Lib.hid hcells
  obtain ⟨n, hn⟩ : ∃ n, n = l.length := ⟨_, rfl⟩
  have hil : i < n := by rw [hn]; exact hf.lt
  have hn9 : (n : Int) ≤ 100000 := by omega
  rw [← hn] at hcall ⊢
  rw [← hn] at HF HS
  have Hn := Lib.hid hn
  have hcl : ∀ {w : World} {B g cap : Nat}, w.ownsRow B 68 3 (.slice (some ⟨g, 0, none⟩) n cap) n (l.flatMap Pt.enc) → _ := fun h => put_cells hget hn h
  have he := fun W => run_eql_pt W p q
  have hg := fun W op x y xs ys => run_guard_pt W op x y xs ys
  have hah := fun W => points_ahead p q W
  clear h1 h2 h3 h4 h5 hA0 hfind hcells hsrcs hget hn hlen hri hp hh hr
  have htold : toldF p q = 2 ∧ (q.V == p.V) = true ∨ (q.V == p.V) = false ∧ (toldF p q = 3 ∧ aheadB p q = true ∨ toldF p q = 4 ∧ aheadB p q = false) := by
    unfold toldF
    by_cases h : q.V = p.V
    · left; simp [h]
    · right; simp only [h, if_false]; refine ⟨by simpa using h, ?_⟩
      cases aheadB p q <;> simp
  clear hf
  have hd : decide (p = q) = false := by simpa using hs1
  simp only [hd] at he
  have Ha := Lib.hid hs2
  clear hd hs1
  rcases htold with ⟨ht, hv2⟩ | ⟨hv2, ⟨ht, ha⟩ | ⟨ht, ha⟩⟩
  · rw [ht]
    clear ht hs2
    go_enter Tryz.func38, Tryz.ntmps38
    go_wp2_with fail
    refine hcall.mono ?_
    rintro e w1 ⟨rfl, hb⟩
    obtain ⟨c0, c1, c2, hB1, hz1⟩ := new3 hb
    go_wp2_with fail
    refine (HF.out w1 hb).mono ?_
    rintro e w2 ⟨rfl, hb2⟩
    have d0 := later hb2 c0
    have d1 := later hb2 c1
    have d2 := later hb2 c2
    have hB2 := bthen hB1 hb2
    have hz2 : w.heap.size < w2.heap.size := Nat.lt_of_lt_of_le hz1 hb2.size
    obtain ⟨b, off, rfl, p0, p1, p2⟩ := HC.out w2 hB2
    clear c0 c1 c2 hb hb2 hcall HF HC
    go_wp2_with fail
    refine (hah _).mono ?_
    rw [Ha.out]
    rintro e w3 ⟨rfl, hb3⟩
    obtain ⟨q0, q1, q2, hB3, hz3⟩ := new3 hb3
    have f0 := later hB3 d0
    have f1 := later hB3 d1
    have f2 := later hB3 d2
    have hBB := bthen hB2 hB3
    go_wp2_with ((refine wpList_app (o := ⟨some 78, _, _, _, _, _⟩) (w0 := w3) w3.heap.size rfl _ _ 54 68 _ 3 24 n (l.flatMap Pt.enc) rfl Tryz.underlying54 info_pt rfl (by decide) (by decide) (.slice (some ⟨w3.heap.size, 0, none⟩) 0 0) 0 [] rfl (HS.out (w3.alloc (.cells #[] 68)) (balloc hBB _)) (World.ownsRow_lit w3 #[] 0 (Nat.le_refl _) (by decide) rfl) (balloc (Below.refl _ _) _) (by simp) (by omega) ?_; intro v1 w5 hO hB5 hg5 hat5; simp only [Nat.zero_add, List.nil_append] at hO; obtain ⟨g, cap, rfl, hbg, hglt⟩ := hO.form (by omega); have g0 := later hB5 f0; have g1 := later hB5 f1; have g2 := later hB5 f2; obtain ⟨k0, k1, k2⟩ := hcl hO; have fz := fun j => hO.frozenAt j))
    go_ret3
    exact put_end hO hB5 (hBB) hbg Hn.out hil0
  · rw [ht]
    clear ht hs2 ha
    go_enter Tryz.func38, Tryz.ntmps38
    go_wp2_with fail
    refine hcall.mono ?_
    rintro e w1 ⟨rfl, hb⟩
    obtain ⟨c0, c1, c2, hB1, hz1⟩ := new3 hb
    go_wp2_with fail
    refine (HF.out w1 hb).mono ?_
    rintro e w2 ⟨rfl, hb2⟩
    have d0 := later hb2 c0
    have d1 := later hb2 c1
    have d2 := later hb2 c2
    have hB2 := bthen hB1 hb2
    have hz2 : w.heap.size < w2.heap.size := Nat.lt_of_lt_of_le hz1 hb2.size
    obtain ⟨b, off, rfl, p0, p1, p2⟩ := HC.out w2 hB2
    clear c0 c1 c2 hb hb2 hcall HF HC
    go_wp2_with fail
    refine (hah _).mono ?_
    rw [Ha.out]
    rintro e w3 ⟨rfl, hb3⟩
    obtain ⟨q0, q1, q2, hB3, hz3⟩ := new3 hb3
    have f0' := later hB3 d0
    have f1' := later hB3 d1
    have f2' := later hB3 d2
    have hBB3 := bthen hB2 hB3
    go_wp2_with fail
    refine (hah _).mono ?_
    rw [Ha.out]
    rintro e w4 ⟨rfl, hb4⟩
    have f0 := later hb4 f0'
    have f1 := later hb4 f1'
    have f2 := later hb4 f2'
    have hBB := bthen hBB3 hb4
    clear f0' f1' f2' hb4
    go_wp2_with ((refine wpList_app (o := ⟨some 78, _, _, _, _, _⟩) (w0 := w4) w4.heap.size rfl _ _ 54 68 _ 3 24 n (l.flatMap Pt.enc) rfl Tryz.underlying54 info_pt rfl (by decide) (by decide) (.slice (some ⟨w4.heap.size, 0, none⟩) 0 0) 0 [] rfl (HS.out (w4.alloc (.cells #[] 68)) (balloc hBB _)) (World.ownsRow_lit w4 #[] 0 (Nat.le_refl _) (by decide) rfl) (balloc (Below.refl _ _) _) (by simp) (by omega) ?_; intro v1 w5 hO hB5 hg5 hat5; simp only [Nat.zero_add, List.nil_append] at hO; obtain ⟨g, cap, rfl, hbg, hglt⟩ := hO.form (by omega); have g0 := later hB5 f0; have g1 := later hB5 f1; have g2 := later hB5 f2; obtain ⟨k0, k1, k2⟩ := hcl hO; have fz := fun j => hO.frozenAt j))
    go_ret3
    exact put_end hO hB5 (hBB) hbg Hn.out hil0
  · rw [hs2] at ha; cases ha
end Go.Proofs.YtbjglcdoekbloaaGreatDoor

/- points.Put: the whole. -/
namespace Go.Proofs.YtbjglcdoekbloaaGreatDoor
open Go.RowKit
theorem points_put {D : Nat → Prop} (v : Value) (l : List Pt) (p : Pt) (w : World) (hv : SlP w D v l) :
    Calls Tryz.prog 38 #[v, .agg #[.int .i64 p.T, .int .u64 p.V, .int .u64 p.S]] w (PutPost w v l (putF l p)) := by
  by_cases h0 : p.S = 0 ∨ rightP l = false
  · have e : putF l p = (l, 0, 1) := by unfold putF; rw [if_pos h0]
    rw [e]; exact put_bad v l p w hv h0
  · have h1 : p.S ≠ 0 := fun h => h0 (.inl h)
    have h2 : rightP l = true := by
      cases h : rightP l with
      | true => rfl
      | false => exact absurd (.inr h) h0
    by_cases h3 : hasP l p.T = false
    · exact put_new v l p w hv h1 h2 h3
    · have h3' : hasP l p.T = true := by simpa using h3
      obtain ⟨q, i, hf⟩ := found_of h3'
      have hq : l[lowP l p.T]?.getD p = q := by rw [← hf.eq, hf.get]; rfl
      by_cases h4 : p = q ∨ aheadB p q = false
      · have e : putF l p = (l, toldF p q, 0) := by unfold putF; rw [if_neg h0, if_neg h3, hq, if_pos h4]
        rw [e]; exact put_stay v l p q i w hv h1 h2 h3' hf h4
      · have e : putF l p = (l.set i p, toldF p q, 0) := by unfold putF; rw [if_neg h0, if_neg h3, hq, if_neg h4, hf.eq]
        have h5 : ¬ p = q := fun h => h4 (.inl h)
        have h6 : aheadB p q = true := by
          cases h : aheadB p q with
          | true => rfl
          | false => exact absurd (.inr h) h4
        rw [e]; exact put_win v l p q i w hv h1 h2 h3' hf h5 h6
end Go.Proofs.YtbjglcdoekbloaaGreatDoor
