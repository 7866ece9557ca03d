import Derived.Test.YtbjglcdoekbloaaGreatDoorGRvC
import Derived.Test.YtbjglcdoekbloaaGreatDoorGLaA
import Derived.Test.YtbjglcdoekbloaaGreatDoorGPlC
import Derived.Deep.DeepCutAuto
set_option linter.unusedSimpArgs false
set_option linter.unusedVariables false
set_option linter.unusedSectionVars false
/- the reference's points: Put. -/
namespace Go.Proofs.YtbjglcdoekbloaaGreatDoor
open Go.RowKit

theorem slc_pre {P : Program} {t e : TypeId} {kl : IntKind} {sz : Nat} {α : Type} {enc : α → List Value} (ht : P.underlying t = some (.slice e)) (hsz : (P.info? e).map (·.size) = some sz) (A : Option Addr) (n c i : Nat) (hi : i ≤ n) (hc : n ≤ c) :
    (∀ W : World, (Instr.slice t (.slice A n c) none (some (.int kl (i : Int))) none).run P W = .ok (.slice A i c) W) ∧
      ∀ (w : World) (D : Nat → Prop) (l : List α), n = l.length → Slc sz enc w D (.slice A n c) l → Slc sz enc w D (.slice A i c) (l.take i) := by
  refine ⟨fun W => ?_, fun w D l hn h => ?_⟩
  · have hel : P.elem t = e := by simp [Program.elem, ht]
    have hu : P.underlying t = some (.slice (P.elem t)) := by rw [hel]; exact ht
    obtain ⟨i0, hi0, hs0⟩ := Option.map_eq_some_iff.1 hsz
    rw [run_slice_h W t A n c hu kl (i : Int) (by omega) (by omega), hel]
    simp [sizeOf, typeInfo, hi0, sliced, Result.andThen]
    intro _
    cases A with
    | none => rfl
    | some ad => simp [Addr.add]
  · obtain ⟨A', c', e1, h1, h2, h3, h4, h5⟩ := h
    cases e1
    have hl : (l.take i).length = i := by rw [List.length_take]; omega
    refine ⟨A, c, by rw [hl], by rw [hl]; omega, h2, h3, (fun ad ha hne => h4 ad ha (fun e => hne (by rw [e]; simp))), ?_⟩
    · intro j x hx
      have hj : j < i := by
        have := (List.getElem?_eq_some_iff.1 hx).1; rw [hl] at this; exact this
      rw [List.getElem?_take_of_lt hj] at hx
      exact h5 j x hx
def RPut (w : World) (r : List Pt) (e : Ending) (w' : World) : Prop :=
  ∃ v a b, e = .returned (.tuple #[v, .int .i64 a, .int .i64 b]) ∧ SlP w' (fun k => w.heap.size ≤ k) v r ∧ Below w.heap.size w w'
theorem own_base {w : World} {B B' n sz : Nat} {e : TypeId} {v : Value} {xs : List Value} (h : w.ownsRow B e sz v n xs) (hb : B' ≤ B) : w.ownsRow B' e sz v n xs := by
  refine ⟨h.1, ?_⟩
  rcases h.2 with h2 | ⟨g, cap, cur, e1, h3, h4⟩
  · exact .inl h2
  · exact .inr ⟨g, cap, cur, e1, Nat.le_trans hb h3, h4⟩
theorem rput_end {w w3 w5 : World} {g n cap i : Nat} {l : List Pt} {p : Pt} {a b : Int} (hO : w5.ownsRow w3.heap.size 68 3 (.slice (some ⟨g, 0, none⟩) n cap) n (l.flatMap Pt.enc)) (hB : Below w.heap.size w w5) (hB3 : w.heap.size ≤ w3.heap.size) (hbg : w3.heap.size ≤ g) (hn : n = l.length) (hi : i < l.length) :
    RPut w (l.set i p) (.returned (.tuple #[.slice (some ⟨g, 0, none⟩) n cap, .int .i64 a, .int .i64 b])) (((w5.setCell ⟨g, i * 3, none⟩ (.int .i64 p.T)).setCell ⟨g, i * 3 + 1, none⟩ (.int .u64 p.V)).setCell ⟨g, i * 3 + 2, none⟩ (.int .u64 p.S)) := by
  have s1 := (hO.stored (i * 3) (.int .i64 p.T)).1
  have s2 := (s1.stored (i * 3 + 1) (.int .u64 p.V)).1
  have s3 := (s2.stored (i * 3 + 2) (.int .u64 p.S)).1
  have hg : w.heap.size ≤ g := Nat.le_trans hB3 hbg
  refine ⟨_, _, _, rfl, (own_slc (n := n) (e := 68) pt_len (l := l.set i p) ?_ ?_).mono (fun k _ hk => Nat.le_trans hB3 hk), ((hB.setCell hg _).setCell hg _).setCell hg _⟩
  · rw [List.length_set, ← hn]
  · rw [← flat_set p l i hi]; simpa using s3
theorem put_fst {l : List Pt} {p q : Pt} {i : Nat} (hp : p.S ≠ 0) (hr : rightP l = true) (hh : hasP l p.T = true) (hf : FoundAt l p q i) : (putF l p).1 = l.set i (leastP p q) := by
  have hset : l.set i q = l := by
    have hq := (List.getElem?_eq_some_iff.1 hf.get).2
    rw [← hq]; exact List.set_getElem_self _
  unfold putF
  rw [if_neg (by simp [hp, hr]), if_neg (by simp [hh]), ← hf.eq, hf.get, Option.getD_some]
  unfold leastP
  by_cases h1 : p = q ∨ aheadB p q = false
  · rw [if_pos h1]
    have h2 : aheadB p q = false := by
      rcases h1 with h1 | h1
      · subst h1; exact aheadB_self p
      · exact h1
    rw [if_neg (by simp [h2])]
    exact hset.symm
  · rw [if_neg h1, if_pos (by simpa using (not_or.1 h1).2)]

set_option maxRecDepth 100000 in
set_option maxHeartbeats 2000000 in
theorem ref09_put1 {D : Nat → Prop} (v : Value) (l : List Pt) (p : Pt) (w : World) (hv : SlP w D v l) (hp : p.S ≠ 0) (hr : rightP l = true) (hh : hasP l p.T = false) :
    Calls Tryz.prog 45 #[v, .agg #[.int .i64 p.T, .int .u64 p.V, .int .u64 p.S]] w (RPut w (putF l p).1) := by
  obtain ⟨hri, hlen⟩ := rightP_rising hr
  have s0 : (p.S == 0) = false := by simpa using hp
  have hlow := lowP_le l p.T
  have hbx0 : Below w.heap.size w (w.alloc (.cells #[.int .i64 p.T, .int .u64 p.V, .int .u64 p.S] 68)) := balloc (Below.refl _ _) _
  have hcpl := fun (W : World) (hW : Below w.heap.size w W) => ref09_copied v l W (hv.below hW) (by omega)
  unfold OwnPost at hcpl
  have HCpl := Lib.hid hcpl
  clear hcpl
  by_cases hfull : l.length = 65536
  · have hpf : (putF l p).1 = l := by unfold putF; rw [if_neg (by simp [hp, hr]), if_pos hh, if_pos (by omega)]
    rw [hpf]
    clear hpf
    obtain ⟨A, c, rfl, h1, h2, h3, h4, h5⟩ := hv
    have hA0 := RdP.below h5 hbx0
    have hcall := ref09_right A c l _ hA0 (by simp only [maxLen]; omega)
    rw [hr] at hcall
    have hfind := fun (w1 : World) (hb : Below (w.alloc (.cells #[.int .i64 p.T, .int .u64 p.V, .int .u64 p.S] 68)).heap.size (w.alloc (.cells #[.int .i64 p.T, .int .u64 p.V, .int .u64 p.S] 68)) w1) => ref_find A c l p.T w1 (hA0.below hb) (by omega)
    rw [hh] at hfind
    have hF : ((l.length : Int) == 65536) = true := by simp; omega
    have HF := Lib.hid hfind
    clear h3 h4 h5 h1 h2 hA0 hfind hh hr hri hfull hlen hlow
    go_enter Tryz.func45, Tryz.ntmps45
    go_wp2_with fail
    refine hcall.mono ?_
    rintro e w1 ⟨rfl, hb⟩
    obtain ⟨c0, c1, c2, hB1, hz1⟩ := new3 hb
    go_wp2_with fail
    refine (HF.out w1 hb).mono ?_
    rintro e w2 ⟨rfl, hb2⟩
    go_wp2_with fail
    refine (HCpl.out _ (bthen hB1 hb2)).mono ?_
    rintro e w3 ⟨v3, rfl, hO3, hb3⟩
    go_wp2
    go_ret3
    exact ⟨_, _, _, rfl, (own_slc pt_len rfl hO3).mono (fun k _ hk => Nat.le_trans (bthen hB1 hb2).size hk), bthen (bthen hB1 hb2) hb3⟩
  · have hpf : (putF l p).1 = l.take (lowP l p.T) ++ p :: l.drop (lowP l p.T) := by unfold putF; rw [if_neg (by simp [hp, hr]), if_pos hh, if_neg (by omega)]
    rw [hpf]
    clear hpf
    have hF : ((l.length : Int) == 65536) = false := by simp; omega
    have hv0 := hv
    obtain ⟨A, c, rfl, h1, h2, h3, h4, h5⟩ := hv
    have hA0 := RdP.below h5 hbx0
    have hcall := ref09_right A c l _ hA0 (by simp only [maxLen]; omega)
    rw [hr] at hcall
    have hfind := fun (w1 : World) (hb : Below (w.alloc (.cells #[.int .i64 p.T, .int .u64 p.V, .int .u64 p.S] 68)).heap.size (w.alloc (.cells #[.int .i64 p.T, .int .u64 p.V, .int .u64 p.S] 68)) w1) => ref_find A c l p.T w1 (hA0.below hb) (by omega)
    rw [hh] at hfind
    have HF := Lib.hid hfind
    obtain ⟨n, hn⟩ : ∃ n, n = l.length := ⟨_, rfl⟩
    obtain ⟨q, hq⟩ : ∃ q, q = lowP l p.T := ⟨_, rfl⟩
    rw [← hn] at hF hlow h1 hlen hcall ⊢
    rw [← hn] at hv0
    rw [← hq] at hlow ⊢
    rw [← hn, ← hq] at HF
    obtain ⟨hsl1, hsl2⟩ := slc_pre (kl := .i64) (enc := Pt.enc) Tryz.underlying54 size_pt A n c q hlow h1
    obtain ⟨A1, htl1, htl2⟩ := slc_tail (kl := .i64) (enc := Pt.enc) Tryz.underlying54 size_pt (by decide) A n c q hlow h1
    have hlq : (l.take q).length = q := by rw [List.length_take, ← hn]; omega
    have hcopy : ∀ W, Below w.heap.size w W → Calls Tryz.prog 87 #[.slice A q c] W (fun e w' => ∃ v, e = .returned v ∧ w'.ownsRow w.heap.size 68 3 v q ((l.take q).flatMap Pt.enc) ∧ Below W.heap.size W w') := by
      intro W hW
      refine (ref09_copied _ _ W (hsl2 W D l hn (hv0.below hW)) (by rw [hlq]; omega)).mono ?_
      rintro e w' ⟨v, rfl, hO, hb⟩
      rw [hlq] at hO
      exact ⟨v, rfl, own_base hO hW.size, hb⟩
    have HCopy := Lib.hid hcopy
    have HV := Lib.hid hv0
    have Hn := Lib.hid hn
    have Ht2 := Lib.hid htl2
    have hn9 : (n : Int) ≤ 100000 := by omega
    have Hlen := Lib.hid hlen
    clear h3 h4 h5 hA0 hfind hh hr hri hn hq hsl2 htl2 hv0 hfull hlen hp hlq hcopy
    go_enter Tryz.func45, Tryz.ntmps45
    go_wp2_with fail
    refine hcall.mono ?_
    rintro e w1 ⟨rfl, hb⟩
    obtain ⟨c0, c1, c2, hB1, hzz1⟩ := new3 hb
    go_wp2_with fail
    refine (HF.out w1 hb).mono ?_
    rintro e w2 ⟨rfl, hb2⟩
    have d0 := later hb2 c0
    have d1 := later hb2 c1
    have d2 := later hb2 c2
    have hB2 := bthen hB1 hb2
    have hzz2 : w.heap.size < w2.heap.size := Nat.lt_of_lt_of_le hzz1 hb2.size
    clear c0 c1 c2 hb2 hb hcall
    go_wp2
    have r0 : Below w2.heap.size w2 w2.drew := bdrew (Below.refl _ _)
    have r1 : Below w2.heap.size w2 (w2.alloc (.cells #[.int .i64 p.T, .int .u64 p.V, .int .u64 p.S] 68)).drew := bdrew (balloc (Below.refl _ _) _)
    go_cut [9] (fun v wx => ∃ m, m = q + 1 ∧ wx.ownsRow w.heap.size 68 3 v m ((l.take q).flatMap Pt.enc ++ p.enc) ∧ Below w.heap.size w wx)
    case first =>
      go_region_law (first | (go_simp; go_at_call 87; refine (HCopy.out _ (by first | exact bthen hB2 r0 | exact bthen hB2 r1)).mono ?_; rintro e w4 ⟨v1, rfl, hO1, hb4⟩; have f0 := later hb4 (later (by first | exact r0 | exact r1) d0); have f1 := later hb4 (later (by first | exact r0 | exact r1) d1); have f2 := later hb4 (later (by first | exact r0 | exact r1) d2); have hB4 : Below w.heap.size w w4 := bthen (by first | exact bthen hB2 r0 | exact bthen hB2 r1) hb4; (try have hbx := Lib.hid (blk_below (w := (w2.alloc (.cells #[.int .i64 p.T, .int .u64 p.V, .int .u64 p.S] 68)).drew) (blk_new w2 _) hb4))) | (refine step_app2 (o := ⟨some 42, _, _, _, _, _⟩) (w0 := w) (W0 := w4) w.heap.size rfl _ _ 54 68 _ 3 24 1 p.enc rfl Tryz.underlying54 info_pt rfl (by decide) (by decide) v1 q _ rfl _ rfl (by first | exact src_block (blk_new _ _) rfl (pt_one p) 1 | exact src_block hbx.out rfl (pt_one p) 1) hO1 hB4 hB4.size (by first | exact Below.refl _ _ | exact balloc (Below.refl _ _) _) (by omega) ?_; intro v2 w5 hO2 hB2 hg2 hat2))
      all_goals (go_wp2_with fail; go_meet; exact ⟨q + 1, rfl, hO2, hB2⟩)
    case rest =>
      obtain ⟨m, rfl, hO2, hB2⟩ := hcut
      have hS2 := (Ht2.out wc D l Hn.out (HV.out.below hB2)).src pt_len pt_one (by decide)
      have hld : (l.drop q).length = n - q := by rw [List.length_drop, ← Hn.out]
      rw [hld] at hS2
      have HS2 := Lib.hid hS2
      clear hS2 hld
      go_wp2_with ((refine wpList_app (o := ⟨some 47, _, _, _, _, _⟩) (w0 := w) w.heap.size rfl _ _ 54 68 _ 3 24 (n - q) ((l.drop q).flatMap Pt.enc) rfl Tryz.underlying54 info_pt rfl (by decide) (by decide) _ (q + 1) _ rfl HS2.out hO2 hB2 hB2.size (by omega) ?_; intro v3 w6 hO3 hB3' hg3 hat3))
      go_ret3
      refine ⟨_, _, _, rfl, own_slc (n := q + 1 + (n - q)) (e := 68) pt_len (l := l.take q ++ p :: l.drop q) ?_ ?_, hB3'⟩
      · simp only [List.length_append, List.length_take, List.length_cons, List.length_drop, ← Hn.out]; omega
      · simpa [List.flatMap_append, List.flatMap_cons] using hO3
end Go.Proofs.YtbjglcdoekbloaaGreatDoor

/- the reference's points: Put, of a time that is there; the whole. -/
namespace Go.Proofs.YtbjglcdoekbloaaGreatDoor
open Go.RowKit

theorem rowp_move {w w' : World} {B g n cap : Nat} {xs : List Value} (h : w.ownsRow B 68 3 (.slice (some ⟨g, 0, none⟩) n cap) n xs) (hb : Below w.heap.size w w') : w'.ownsRow B 68 3 (.slice (some ⟨g, 0, none⟩) n cap) n xs := own_below h hb
set_option maxRecDepth 100000 in
set_option maxHeartbeats 2000000 in
theorem ref09_put2 {D : Nat → Prop} (v : Value) (l : List Pt) (p q : Pt) (i : Nat) (w : World) (hv : SlP w D v l) (hp : p.S ≠ 0) (hr : rightP l = true) (hh : hasP l p.T = true) (hf : FoundAt l p q i) :
    Calls Tryz.prog 45 #[v, .agg #[.int .i64 p.T, .int .u64 p.V, .int .u64 p.S]] w (RPut w (putF l p).1) := by
  rw [put_fst hp hr hh hf]
  obtain ⟨hri, hlen⟩ := rightP_rising hr
  have s0 : (p.S == 0) = false := by simpa using hp
  have hbx0 : Below w.heap.size w (w.alloc (.cells #[.int .i64 p.T, .int .u64 p.V, .int .u64 p.S] 68)) := balloc (Below.refl _ _) _
  have hcpl := fun (W : World) (hW : Below w.heap.size w W) => ref09_copied v l W (hv.below hW) (by omega)
  unfold OwnPost at hcpl
  obtain ⟨A, c, rfl, h1, h2, h3, h4, h5⟩ := hv
  have hA0 := RdP.below h5 hbx0
  have hcall := ref09_right A c l _ hA0 (by simp only [maxLen]; omega)
  rw [hr] at hcall
  have hfind := fun (w1 : World) (hb : Below (w.alloc (.cells #[.int .i64 p.T, .int .u64 p.V, .int .u64 p.S] 68)).heap.size (w.alloc (.cells #[.int .i64 p.T, .int .u64 p.V, .int .u64 p.S] 68)) w1) => ref_find A c l p.T w1 (hA0.below hb) (by omega)
  rw [hh, ← hf.eq] at hfind
  have hcells : ∀ w1, Below w.heap.size w w1 → ∃ b off, A = some ⟨b, off, none⟩ ∧ w1.cell? ⟨b, off + i * 3, none⟩ = some (.int .i64 q.T) ∧ w1.cell? ⟨b, off + i * 3 + 1, none⟩ = some (.int .u64 q.V) ∧ w1.cell? ⟨b, off + i * 3 + 2, none⟩ = some (.int .u64 q.S) := by
    intro w1 hb
    have hg : l[i]'hf.lt = q := by have := hf.get; rw [List.getElem?_eq_getElem hf.lt] at this; exact Option.some.inj this
    have := (RdP.below h5 hb).at_ hf.lt
    rwa [hg] at this
  have hil0 := hf.lt
  have hget := hf.get
  have HF := Lib.hid hfind
  have HC := Lib.hid hcells
  obtain ⟨n, hn⟩ : ∃ n, n = l.length := ⟨_, rfl⟩
  have hil : i < n := by rw [hn]; exact hf.lt
  have hn9 : (n : Int) ≤ 100000 := by omega
  rw [← hn] at hcall hcpl ⊢
  rw [← hn] at HF
  have HCpl := Lib.hid hcpl
  have Hn := Lib.hid hn
  have hcl : ∀ {w : World} {B g cap : Nat}, w.ownsRow B 68 3 (.slice (some ⟨g, 0, none⟩) n cap) n (l.flatMap Pt.enc) → _ := fun h => put_cells hget hn h
  have hlst := fun W => ref09_least p q W
  have hah := fun W => ref09_ahead p q W
  have HLst := Lib.hid hlst
  have HAh := Lib.hid hah
  have HIl := Lib.hid hil0
  obtain ⟨y, hy⟩ : ∃ y, leastP p q = y := ⟨_, rfl⟩
  rw [hy] at HLst ⊢
  obtain ⟨bz, hbz⟩ : ∃ bz, aheadB p q = bz := ⟨_, rfl⟩
  rw [hbz] at HAh
  clear h1 h2 h3 h4 h5 hA0 hfind hcells hget hn hlen hri hp hh hr hcpl hlst hah hil0 hy hbz hf
  go_enter Tryz.func45, Tryz.ntmps45
  go_wp2_with fail
  refine hcall.mono ?_
  rintro e w1 ⟨rfl, hb⟩
  obtain ⟨c0, c1, c2, hB1, hz1⟩ := new3 hb
  go_wp2_with fail
  refine (HF.out w1 hb).mono ?_
  rintro e w2 ⟨rfl, hb2⟩
  have d0 := later hb2 c0
  have d1 := later hb2 c1
  have d2 := later hb2 c2
  have hB2 := bthen hB1 hb2
  have hz2 : w.heap.size < w2.heap.size := Nat.lt_of_lt_of_le hz1 hb2.size
  clear c0 c1 c2 hb hb2 hcall HF
  go_wp2_with fail
  refine (HCpl.out _ hB2).mono ?_
  rintro e w3 ⟨v3, rfl, hO3, hb3⟩
  obtain ⟨g, cap, rfl, hbg, hglt⟩ := hO3.form (by omega)
  have hB3 := bthen hB2 hb3
  obtain ⟨b, off, rfl, p0, p1, p2⟩ := HC.out w3 hB3
  have e0 := later hb3 d0
  have e1 := later hb3 d1
  have e2 := later hb3 d2
  have hz3 : w.heap.size < w3.heap.size := Nat.lt_of_lt_of_le hz2 hb3.size
  clear d0 d1 d2 HC
  go_wp2_with fail
  refine (HLst.out _).mono ?_
  rintro e w4 ⟨rfl, hb4⟩
  obtain ⟨q0, q1, q2, hB4, hz4⟩ := new3 hb4
  have f0 := later hB4 e0
  have f1 := later hB4 e1
  have f2 := later hB4 e2
  have hBB := bthen hB3 hB4
  have hO4 := rowp_move hO3 hB4
  obtain ⟨k0, k1, k2⟩ := hcl hO4
  have fz := fun j => hO4.frozenAt j
  have HO4 := Lib.hid hO4
  have HBB := Lib.hid hBB
  clear e0 e1 e2 p0 p1 p2 hb4 hO3 hcl hO4
  by_cases hpq : p.V = q.V
  · have hpv : (p.V == q.V) = true := by simpa using hpq
    clear hpq
    go_wp2
    go_ret3
    exact rput_end HO4.out HBB.out hB2.size hbg Hn.out HIl.out
  · have hpv : (p.V == q.V) = false := by simpa using hpq
    clear hpq
    go_wp2_with fail
    refine (HAh.out _).mono ?_
    rintro e w5 ⟨rfl, hb5⟩
    obtain ⟨v', a', b', e, h1, h2⟩ := rput_end (p := y) (a := 0) (b := 0) HO4.out HBB.out hB2.size hbg Hn.out HIl.out
    cases e
    have H1 := Lib.hid (h1.below hb5)
    have H2 := Lib.hid (bthen h2 hb5)
    clear h1 h2 hb5 HO4 HBB k0 k1 k2 fz q0 q1 q2 f0 f1 f2
    cases bz
    all_goals
      go_wp2_with fail
      go_ret3
      exact ⟨_, _, _, rfl, H1.out, H2.out⟩
/-- WHAT THE DOCUMENT's Put ANSWERS -/
theorem ref09_put {D : Nat → Prop} (v : Value) (l : List Pt) (p : Pt) (w : World) (hv : SlP w D v l) (hp : p.S ≠ 0) (hr : rightP l = true) :
    Calls Tryz.prog 45 #[v, .agg #[.int .i64 p.T, .int .u64 p.V, .int .u64 p.S]] w (RPut w (putF l p).1) := by
  cases hh : hasP l p.T with
  | false => exact ref09_put1 v l p w hv hp hr hh
  | true =>
    obtain ⟨q, i, hf⟩ := found_of hh
    exact ref09_put2 v l p q i w hv hp hr hh hf
end Go.Proofs.YtbjglcdoekbloaaGreatDoor
