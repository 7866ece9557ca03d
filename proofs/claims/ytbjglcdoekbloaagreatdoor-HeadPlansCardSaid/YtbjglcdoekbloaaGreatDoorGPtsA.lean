import Derived.Test.YtbjglcdoekbloaaGreatDoorGBase
set_option linter.unusedSimpArgs false
set_option linter.unusedVariables false
set_option linter.unusedSectionVars false
/- points.Right, Ahead, search, Find. -/
namespace Go.Proofs.YtbjglcdoekbloaaGreatDoor
open Go.RowKit

/-- a point -/
structure Pt where
  T : Int
  V : Int
  S : Int
deriving DecidableEq
def Pt.enc (x : Pt) : List Value := [.int .i64 x.T, .int .u64 x.V, .int .u64 x.S]
def RdP (w : World) (A : Option Addr) (l : List Pt) : Prop := Rd 3 Pt.enc w A l
theorem RdP.at_ {w : World} {A : Option Addr} {l : List Pt} (h : RdP w A l) {k : Nat} (hk : k < l.length) :
    ∃ b off, A = some ⟨b, off, none⟩ ∧ w.cell? ⟨b, off + k * 3, none⟩ = some (.int .i64 l[k].T) ∧ w.cell? ⟨b, off + k * 3 + 1, none⟩ = some (.int .u64 l[k].V) ∧ w.cell? ⟨b, off + k * 3 + 2, none⟩ = some (.int .u64 l[k].S) := by
  obtain ⟨b, off, e, h⟩ := h k l[k] (List.getElem?_eq_getElem hk)
  exact ⟨b, off, e, h 0 _ rfl, h 1 _ rfl, h 2 _ rfl⟩
theorem Rd.below {α : Type} {sz : Nat} {enc : α → List Value} {w w' : World} {A : Option Addr} {l : List α} (h : Rd sz enc w A l) (hb : Below w.heap.size w w') : Rd sz enc w' A l := by
  intro i x hx
  obtain ⟨b, off, e, h⟩ := h i x hx
  exact ⟨b, off, e, fun j u hj => later hb (h j u hj)⟩
theorem RdP.below {w w' : World} {A : Option Addr} {l : List Pt} (h : RdP w A l) (hb : Below w.heap.size w w') : RdP w' A l := Rd.below h hb
theorem new3 {w w1 : World} {u v x : Value} {T : TypeId} (hb : Below (w.alloc (.cells #[u, v, x] T)).heap.size (w.alloc (.cells #[u, v, x] T)) w1) :
    w1.cell? ⟨w.heap.size, 0, none⟩ = some u ∧ w1.cell? ⟨w.heap.size, 1, none⟩ = some v ∧ w1.cell? ⟨w.heap.size, 2, none⟩ = some x ∧ Below w.heap.size w w1 ∧ w.heap.size < w1.heap.size := by
  refine ⟨later hb (by simp), later hb (by simp), later hb (by simp), ((Below.refl w.heap.size w).alloc (Nat.le_refl _) _).trans (hb.mono (by simp)), ?_⟩
  have := hb.size; simp at this; omega

/-! ### Ahead -/
def aheadB (p q : Pt) : Bool := if p.S = q.S then decide (p.V < q.V) else decide (p.S < q.S)
set_option maxHeartbeats 400000 in
theorem points_ahead (p q : Pt) (w : World) :
    Calls Tryz.prog 79 #[.agg #[.int .i64 p.T, .int .u64 p.V, .int .u64 p.S], .agg #[.int .i64 q.T, .int .u64 q.V, .int .u64 q.S]] w fun e w' => e = .returned (.bool (aheadB p q)) ∧ Below w.heap.size w w' := by
  by_cases h : p.S = q.S
  · have h1 : (p.S != q.S) = false := by simp [h]
    have e : aheadB p q = decide (p.V < q.V) := by simp [aheadB, h]
    rw [e]
    clear e h
    go_enter Tryz.func79, Tryz.ntmps79
    go_wp2
    all_goals go_ret
    all_goals exact ⟨rfl, balloc (balloc (Below.refl _ _) _) _⟩
  · have h1 : (p.S != q.S) = true := by simp [h]
    have e : aheadB p q = decide (p.S < q.S) := by simp [aheadB, h]
    rw [e]
    clear e h
    go_enter Tryz.func79, Tryz.ntmps79
    go_wp2
    all_goals go_ret
    all_goals exact ⟨rfl, balloc (balloc (Below.refl _ _) _) _⟩

/-! ### search, Find -/
def lowP (l : List Pt) (t : Int) : Nat := (l.takeWhile fun p => decide (p.T < t)).length
/-- rising times -/
def Rising (l : List Pt) : Prop := l.Pairwise fun p q => p.T < q.T
theorem lowP_le (l : List Pt) (t : Int) : lowP l t ≤ l.length := by
  unfold lowP; exact (List.takeWhile_sublist _).length_le
theorem lowP_cons (p : Pt) (r : List Pt) (t : Int) : lowP (p :: r) t = if p.T < t then lowP r t + 1 else 0 := by
  unfold lowP
  by_cases h : p.T < t <;> simp [List.takeWhile_cons, h]
theorem lowP_lt {t : Int} : ∀ {l : List Pt} {i : Nat} (hi : i < l.length), i < lowP l t → l[i].T < t
  | [], i, hi, _ => by simp at hi
  | p :: r, i, hi, h => by
    rw [lowP_cons] at h
    split at h
    · rename_i hp
      cases i with
      | zero => exact hp
      | succ i => exact lowP_lt (l := r) (by simpa using hi) (by omega)
    · omega
theorem lowP_at {t : Int} : ∀ {l : List Pt} (h : lowP l t < l.length), ¬ l[lowP l t].T < t
  | [], h => by simp at h
  | p :: r, h => by
    by_cases hp : p.T < t
    · have e : lowP (p :: r) t = lowP r t + 1 := by rw [lowP_cons, if_pos hp]
      have h' : lowP r t < r.length := by rw [e] at h; simpa using h
      have e2 : (p :: r)[lowP (p :: r) t] = r[lowP r t] := by simp only [e, List.getElem_cons_succ]
      rw [e2]; exact lowP_at h'
    · have e : lowP (p :: r) t = 0 := by rw [lowP_cons, if_neg hp]
      simp only [e, List.getElem_cons_zero]; exact hp
theorem lowP_ge {l : List Pt} {t : Int} (hr : Rising l) {i : Nat} (hi : i < l.length) (h : lowP l t ≤ i) : t ≤ l[i].T := by
  have hl : lowP l t < l.length := by omega
  have h0 : ¬ l[lowP l t].T < t := lowP_at hl
  by_cases he : lowP l t = i
  · subst he; omega
  · have := (List.pairwise_iff_getElem.1 hr) (lowP l t) i hl hi (by omega)
    omega

set_option maxHeartbeats 400000 in
theorem points_find1 (p : Pt) (tb : Nat) (t : Int) (w : World) (ht : w.cell? ⟨tb, 0, none⟩ = some (.int .i64 t)) :
    Calls Tryz.prog 81 #[.agg #[.int .i64 p.T, .int .u64 p.V, .int .u64 p.S], .pointer (some ⟨tb, 0, none⟩)] w fun e w' => e = .returned (.bool (decide (t ≤ p.T))) ∧ Below w.heap.size w w' := by
  have hlt : tb < w.heap.size := World.block_lt_of_cell? w ⟨tb, 0, none⟩ ht
  go_enter Tryz.func81, Tryz.ntmps81
  go_wp2
  go_ret
  exact ⟨rfl, balloc (Below.refl _ _) _⟩

set_option maxRecDepth 100000 in
set_option maxHeartbeats 1000000 in
theorem points_search (A : Option Addr) (c : Nat) (l : List Pt) (tb : Nat) (t : Int) (w : World) (hA : RdP w A l) (hl : l.length ≤ 1000000) (hr : Rising l) (ht : w.cell? ⟨tb, 0, none⟩ = some (.int .i64 t)) :
    Calls Tryz.prog 80 #[.slice A l.length c, .func (.func 81) #[] #[.pointer (some ⟨tb, 0, none⟩)]] w fun e w' => e = .returned (.int .i64 (lowP l t)) ∧ Below w.heap.size w w' := by
  obtain ⟨n, hn⟩ : ∃ n, n = l.length := ⟨_, rfl⟩
  rw [← hn]
  have hnb : n ≤ 1000000 := by omega
  have hlow := lowP_le l t
  rw [← hn] at hlow
  have Hn := Lib.hid hn
  obtain ⟨q, hq⟩ : ∃ q, q = lowP l t := ⟨_, rfl⟩
  rw [← hq] at hlow ⊢
  have Hq := Lib.hid hq
  clear hn hl hq
  go_enter Tryz.func80, Tryz.ntmps80
  go_wp2
  go_loopw [5, 6] (fun lo hi wr => ∃ i j : Nat, lo = .int .i64 i ∧ hi = .int .i64 j ∧ i ≤ q ∧ q ≤ j ∧ j ≤ n ∧ Below w.heap.size w wr) (fun lo hi _ => (intOf hi - intOf lo).toNat)
  case atStart => exact ⟨0, n, rfl, rfl, Nat.zero_le _, hlow, Nat.le_refl _, Below.refl _ _⟩
  case round =>
    obtain ⟨i, j, rfl, rfl, h1, h2, h3, hB⟩ := hrel
    by_cases hlt : i < j
    · have b1 : (0 : Int) ≤ (j : Int) - (i : Int) := by omega
      have b2 : (j : Int) - (i : Int) ≤ 1000000 := by omega
      obtain ⟨m, hm, hm1, hm2⟩ : ∃ m : Nat, (i : Int) + ((j : Int) - (i : Int)) / 2 = (m : Int) ∧ i ≤ m ∧ m < j := ⟨i + (j - i) / 2, by omega, by omega, by omega⟩
      have hml : m < l.length := by have := Hn.out; omega
      have hcs := (hA.below hB).at_ hml
      obtain ⟨b, off, eA, c0, c1, c2⟩ := hcs
      have htr : wr.cell? ⟨tb, 0, none⟩ = some (.int .i64 t) := later hB ht
      have hcall := points_find1 l[m] tb t wr htr
      have hside : (t ≤ l[m].T ∧ q ≤ m) ∨ (¬ t ≤ l[m].T ∧ m < q) := by
        have := Hq.out
        by_cases h : m < q
        · have := lowP_lt (t := t) hml (by omega); right; omega
        · have := lowP_ge hr hml (t := t) (by omega); left; omega
      generalize l[m] = x at *
      subst eA
      rcases hside with ⟨s1, s2⟩ | ⟨s1, s2⟩
      · have hd : decide (t ≤ x.T) = true := by simpa using s1
        rw [hd] at hcall
        clear hd s1
        go_wp2_with (go_at_call 81; refine hcall.mono ?_; rintro e w1 ⟨rfl, hb⟩)
        go_roundw
        case rel => exact ⟨i, m, rfl, rfl, by omega, by omega, by omega, bthen hB hb⟩
        case measure => simp [intOf]; omega
      · have hd : decide (t ≤ x.T) = false := by simpa using s1
        rw [hd] at hcall
        clear hd s1
        go_wp2_with (go_at_call 81; refine hcall.mono ?_; rintro e w1 ⟨rfl, hb⟩)
        go_roundw
        case rel => exact ⟨m + 1, j, by go_num, rfl, by omega, by omega, by omega, bthen hB hb⟩
        case measure => simp [intOf]; omega
    · go_wp2
      go_ret
      exact ⟨ret_int (by omega), hB⟩

/-- at a time t of a list that rises: is there a point? -/
def hasP (l : List Pt) (t : Int) : Bool := match l[lowP l t]? with | some p => decide (p.T = t) | none => false

set_option maxRecDepth 100000 in
set_option maxHeartbeats 1000000 in
theorem points_find (A : Option Addr) (c : Nat) (l : List Pt) (t : Int) (w : World) (hA : RdP w A l) (hl : l.length ≤ 1000000) (hr : Rising l) :
    Calls Tryz.prog 40 #[.slice A l.length c, .int .i64 t] w fun e w' => e = .returned (.tuple #[.int .i64 (lowP l t), .bool (hasP l t)]) ∧ Below w.heap.size w w' := by
  have hAw := hA.below ((Below.refl w.heap.size w).alloc (Nat.le_refl _) (.cells #[.int .i64 t] 2))
  have hs := points_search A c l w.heap.size t (w.alloc (.cells #[.int .i64 t] 2)) hAw hl hr (by simp)
  have hlow := lowP_le l t
  by_cases hlt : lowP l t < l.length
  · have hh : hasP l t = decide (l[lowP l t].T = t) := by unfold hasP; rw [List.getElem?_eq_getElem hlt]
    have h2 : ∀ w1, Below (w.alloc (.cells #[.int .i64 t] 2)).heap.size (w.alloc (.cells #[.int .i64 t] 2)) w1 → ∃ b off, A = some ⟨b, off, none⟩ ∧ w1.cell? ⟨b, off + lowP l t * 3, none⟩ = some (.int .i64 l[lowP l t].T) := by
      intro w1 hb
      obtain ⟨b, off, e, c0, _⟩ := (hAw.below hb).at_ hlt
      exact ⟨b, off, e, c0⟩
    rw [hh]
    clear hh hAw hA
    generalize l[lowP l t] = x at *
    generalize lowP l t = q at *
    generalize l.length = n at *
    have H2 := Lib.hid h2
    clear h2
    go_enter Tryz.func40, Tryz.ntmps40
    go_wp2_with fail
    refine hs.mono ?_
    rintro e w1 ⟨rfl, hb⟩
    obtain ⟨b, off, rfl, c0⟩ := H2.out w1 hb
    obtain ⟨d0, hB, hz⟩ := new1 hb
    go_wp2
    go_quiet (fail)
    go_wp2
    go_ret2
    exact ⟨rfl, bdr hB _⟩
  · have hh : hasP l t = false := by unfold hasP; rw [List.getElem?_eq_none (by omega)]
    rw [hh]
    clear hh hAw hA
    generalize lowP l t = q at *
    generalize l.length = n at *
    have hd : decide (q < n) = false := by simpa using hlt
    go_enter Tryz.func40, Tryz.ntmps40
    go_wp2_with fail
    refine hs.mono ?_
    rintro e w1 ⟨rfl, hb⟩
    obtain ⟨d0, hB, hz⟩ := new1 hb
    go_wp2
    go_quiet (fail)
    go_wp2
    go_ret2
    exact ⟨rfl, bdr hB _⟩
end Go.Proofs.YtbjglcdoekbloaaGreatDoor

/- points.Right. -/
namespace Go.Proofs.YtbjglcdoekbloaaGreatDoor
open Go.RowKit

def notAfter (pv : Option Int) (t : Int) : Bool := match pv with | none => false | some u => decide (t ≤ u)
def rfromP : Option Int → List Pt → Bool
  | _, [] => true
  | pv, x :: r => !decide (x.S = 0) && !notAfter pv x.T && rfromP (some x.T) r
def rightP (l : List Pt) : Bool := rfromP none l && decide (l.length ≤ 65536)
def prevT (l : List Pt) (k : Nat) : Option Int := match k with | 0 => none | j + 1 => (l[j]?).map Pt.T

structure RightPTo (l : List Pt) (k : Nat) : Prop where
  eq : rfromP none l = rfromP (prevT l k) (l.drop k)
theorem RightPTo.start (l : List Pt) : RightPTo l 0 := ⟨rfl⟩
theorem RightPTo.round {l : List Pt} {k : Nat} (h : RightPTo l k) (hk : k < l.length) :
    (l[k].S = 0 ∧ rightP l = false) ∨ (l[k].S ≠ 0 ∧ notAfter (prevT l k) l[k].T = true ∧ rightP l = false) ∨ (l[k].S ≠ 0 ∧ notAfter (prevT l k) l[k].T = false ∧ RightPTo l (k + 1)) := by
  have e := h.eq
  rw [List.drop_eq_getElem_cons hk, rfromP] at e
  by_cases h1 : l[k].S = 0
  · exact .inl ⟨h1, by unfold rightP; rw [e]; simp [h1]⟩
  · by_cases h2 : notAfter (prevT l k) l[k].T = true
    · exact .inr (.inl ⟨h1, h2, by unfold rightP; rw [e]; simp [h2]⟩)
    · have h2' : notAfter (prevT l k) l[k].T = false := by simpa using h2
      refine .inr (.inr ⟨h1, h2', ⟨?_⟩⟩)
      rw [e, h2']; simp [h1, prevT, List.getElem?_eq_getElem hk]
theorem RightPTo.done {l : List Pt} {k : Nat} (h : RightPTo l k) (hk : ¬ k < l.length) : rightP l = decide (l.length ≤ 65536) := by
  unfold rightP; rw [h.eq, List.drop_of_length_le (by omega)]; simp [rfromP]

set_option maxHeartbeats 2000000 in
theorem points_right (A : Option Addr) (c : Nat) (l : List Pt) (w : World) (hA : RdP w A l) (hl : l.length ≤ maxLen) :
    Calls Tryz.prog 78 #[.slice A l.length c] w fun e w' => e = .returned (.bool (rightP l)) ∧ Below w.heap.size w w' := by
  have hl : l.length ≤ 9223372036854775807 := hl
  obtain ⟨n, hn⟩ : ∃ n, n = l.length := ⟨_, rfl⟩
  rw [← hn] at hl ⊢
  have Hn := Lib.hid hn
  clear hn
  go_enter Tryz.func78, Tryz.ntmps78
  go_wp2
  go_loopw [7] (fun i wr => ∃ k : Nat, k ≤ n ∧ i = .int .i64 k ∧ RightPTo l k ∧ Below w.heap.size w wr) (fun i _ => n - (intOf i).toNat)
  case atStart => exact ⟨0, Nat.zero_le _, rfl, RightPTo.start l, Below.refl _ _⟩
  case round =>
    obtain ⟨k, hk, rfl, hR, hB⟩ := hrel
    by_cases hlt : k < n
    · have hkl : k < l.length := by rw [← Hn.out]; exact hlt
      have hAr := hA.below hB
      obtain ⟨b, off, rfl, c0, c1, c2⟩ := hAr.at_ hkl
      have hsr := hB.size
      have hbl : b < wr.heap.size := World.block_lt_of_cell? wr ⟨b, off + k * 3, none⟩ c0
      rcases hR.round hkl with ⟨g1, g2⟩ | ⟨g1, g2, g3⟩ | ⟨g1, g2, hR'⟩
      · have G2 := Lib.hid g2
        have s1 : (l[k].S == 0) = true := by simpa using g1
        clear g1 g2
        generalize l[k] = x at *
        go_wp2
        go_quiet (fail)
        go_wp2
        go_ret
        exact ⟨ret_bool G2.out.symm, bdr (balloc hB _) _⟩
      · have G3 := Lib.hid g3
        obtain ⟨j, rfl⟩ : ∃ j, k = j + 1 := by
          cases k with
          | zero => simp [prevT, notAfter] at g2
          | succ j => exact ⟨j, rfl⟩
        have hjl : j < l.length := by omega
        obtain ⟨b', off', eA, p0, _⟩ := hAr.at_ hjl
        cases eA
        have g2' : l[j + 1].T ≤ l[j].T := by simpa [prevT, notAfter, List.getElem?_eq_getElem hjl] using g2
        have s1 : (l[j + 1].S == 0) = false := by simpa using g1
        clear g3 g1 g2
        generalize l[j + 1] = x at *
        generalize l[j] = y at *
        have hcur : ((j + 1 : Nat) : Int) = (j : Int) + 1 := by omega
        go_wp2
        go_quiet (fail)
        go_wp2
        go_ret
        exact ⟨ret_bool G3.out.symm, bdr (balloc hB _) _⟩
      · have s1 : (l[k].S == 0) = false := by simpa using g1
        by_cases hk0 : k = 0
        · subst hk0
          clear g1 g2
          generalize l[0] = x at *
          simp only [Nat.zero_mul, Nat.add_zero] at c0 c1 c2
          go_wp2
          go_quiet (fail)
          go_wp2
          go_roundw
          case rel => exact ⟨1, by omega, by go_num, hR', bdr (balloc hB _) _⟩
          case measure => simp [intOf]; omega
        · obtain ⟨j, rfl⟩ : ∃ j, k = j + 1 := ⟨k - 1, by omega⟩
          have hjl : j < l.length := by omega
          obtain ⟨b', off', eA, p0, _⟩ := hAr.at_ hjl
          cases eA
          have g2' : ¬ l[j + 1].T ≤ l[j].T := by simpa [prevT, notAfter, List.getElem?_eq_getElem hjl] using g2
          clear g1 g2
          generalize l[j + 1] = x at *
          generalize l[j] = y at *
          have hcur : ((j + 1 : Nat) : Int) = (j : Int) + 1 := by omega
          go_wp2
          go_quiet (fail)
          go_wp2
          go_roundw
          case rel => exact ⟨j + 1 + 1, by omega, by go_num, hR', bdr (balloc hB _) _⟩
          case measure => simp [intOf]; omega
    · have e := hR.done (by rw [← Hn.out]; exact hlt)
      rw [← Hn.out] at e
      have E := Lib.hid e
      clear e
      by_cases h6 : n ≤ 65536
      · have h6' : (n : Int) ≤ 65536 := by omega
        go_wp2
        go_ret
        exact ⟨ret_bool (by rw [E.out]; simp [h6]), hB⟩
      · have h6' : ¬ (n : Int) ≤ 65536 := by omega
        go_wp2
        go_ret
        exact ⟨ret_bool (by rw [E.out]; simp [h6]), hB⟩
end Go.Proofs.YtbjglcdoekbloaaGreatDoor

/- == on points; slices.Equal, head.owned. -/
namespace Go.Proofs.YtbjglcdoekbloaaGreatDoor
open Go.RowKit

theorem pt_len (x : Pt) : x.enc.length = 3 := rfl
theorem pt_one (x : Pt) : ∀ u ∈ x.enc, u.oneCell' = true := by intro u hu; simp [Pt.enc] at hu; rcases hu with rfl | rfl | rfl <;> rfl
theorem info_pt : (Tryz.prog.info? 68).map (fun i => (i.zero, i.size, i.bytes)) = some (some (.agg #[.int .i64 0, .int .u64 0, .int .u64 0]), 3, 24) := by kernel_rfl
theorem size_pt : (Tryz.prog.info? 68).map (·.size) = some 3 := by kernel_rfl
theorem pt_stood : Tryz.prog.stoodInHeld 68 = false := by kernel_rfl
theorem pt_guard : Tryz.prog.eqGuardType Tryz.prog.depth 68 = false := by kernel_rfl
theorem pt_fields : ∃ f0 f1 f2 : Field, Tryz.prog.underlying 68 = some (.struct #[f0, f1, f2]) ∧ f0.name ≠ "_" ∧ f1.name ≠ "_" ∧ f2.name ≠ "_" ∧ f0.offset = 0 ∧ f1.offset = 1 ∧ f2.offset = 2 ∧ Tryz.prog.underlying f0.type = some (.int .i64) ∧ Tryz.prog.underlying f1.type = some (.int .u64) ∧ Tryz.prog.underlying f2.type = some (.int .u64) :=
  ⟨_, _, _, Tryz.underlying68, by decide, by decide, by decide, rfl, rfl, rfl, Tryz.underlying2, Tryz.underlying23, Tryz.underlying23⟩
theorem isAgg_int {P : Program} {t : TypeId} {k : IntKind} (ht : P.underlying t = some (.int k)) (w : World) : (isAgg t).run P w = .ok false w := by
  unfold isAgg; simp [run_underlying ht]
theorem run_part_int {P : Program} {t : TypeId} {k : IntKind} (ht : P.underlying t = some (.int k)) (w : World) (cs : Array Value) (i : Nat) (v : Value) (h : cs[i]? = some v) : (part t cs i).run P w = .ok v w := by
  unfold part; simp [isAgg_int ht, h]
theorem run_eqIn_pt (w : World) (a b : Pt) : (Op.equalIn 10000 68 (.agg #[.int .i64 a.T, .int .u64 a.V, .int .u64 a.S]) (.agg #[.int .i64 b.T, .int .u64 b.V, .int .u64 b.S])).run Tryz.prog w = .ok (decide (a = b)) w := by
  obtain ⟨f0, f1, f2, hk, n0, n1, n2, o0, o1, o2, t0, t1, t2⟩ := pt_fields
  have hf : Tryz.prog.fieldsOf 68 = #[f0, f1, f2] := by simp [Program.fieldsOf, hk]
  rw [run_equalIn_struct w 9999 _ _ _ (by rw [hf, hk]) pt_stood, hf]
  simp only [Op.eqFields, ne_eq, n0, n1, n2, not_false_eq_true, if_true, o0, o1, o2, Sem.run_bind]
  rw [run_part_int t0 w _ _ (.int .i64 a.T) (by simp)]; simp only [Result.andThen_ok]
  rw [run_part_int t0 w _ _ (.int .i64 b.T) (by simp)]; simp only [Result.andThen_ok]
  rw [run_equalIn_int w 9998 f0.type _ _ _ _ t0]; simp only [Result.andThen_ok]
  by_cases e0 : a.T = b.T
  · have x0 : (a.T == b.T) = true := by simpa using e0
    simp only [x0, Bool.not_true, Bool.false_eq_true, if_false, Sem.run_bind]
    rw [run_part_int t1 w _ _ (.int .u64 a.V) (by simp)]; simp only [Result.andThen_ok]
    rw [run_part_int t1 w _ _ (.int .u64 b.V) (by simp)]; simp only [Result.andThen_ok]
    rw [run_equalIn_int w 9998 f1.type _ _ _ _ t1]; simp only [Result.andThen_ok]
    by_cases e1 : a.V = b.V
    · have x1 : (a.V == b.V) = true := by simpa using e1
      simp only [x1, Bool.not_true, Bool.false_eq_true, if_false, Sem.run_bind]
      rw [run_part_int t2 w _ _ (.int .u64 a.S) (by simp)]; simp only [Result.andThen_ok]
      rw [run_part_int t2 w _ _ (.int .u64 b.S) (by simp)]; simp only [Result.andThen_ok]
      rw [run_equalIn_int w 9998 f2.type _ _ _ _ t2]; simp only [Result.andThen_ok]
      by_cases e2 : a.S = b.S
      · have : a = b := by cases a; cases b; simp_all
        have x2 : (a.S == b.S) = true := by simpa using e2
        simp [x2, this]
      · have : ¬ a = b := fun h => e2 (by rw [h])
        have x2 : (a.S == b.S) = false := by simpa using e2
        simp [x2, this]
    · have : ¬ a = b := fun h => e1 (by rw [h])
      have x1 : (a.V == b.V) = false := by simpa using e1
      simp [x1, this]
  · have : ¬ a = b := fun h => e0 (by rw [h])
    have x0 : (a.T == b.T) = false := by simpa using e0
    simp [x0, this]
theorem run_neq_pt (w : World) (a b : Pt) : (binOp .neq 68 (.agg #[.int .i64 a.T, .int .u64 a.V, .int .u64 a.S]) (.agg #[.int .i64 b.T, .int .u64 b.V, .int .u64 b.S])).run Tryz.prog w = .ok (.bool (!decide (a = b))) w := by
  rw [run_neq_struct, run_eqIn_pt]; rfl
theorem run_eql_pt (w : World) (a b : Pt) : (binOp .eql 68 (.agg #[.int .i64 a.T, .int .u64 a.V, .int .u64 a.S]) (.agg #[.int .i64 b.T, .int .u64 b.V, .int .u64 b.S])).run Tryz.prog w = .ok (.bool (decide (a = b))) w := by
  rw [run_eql_struct, run_eqIn_pt]; rfl
theorem run_guard_pt (w : World) (op : BinOp) (x y : Operand) (xs ys : Array Value) : (eqGuard op 68 x y (.agg xs) (.agg ys)).run Tryz.prog w = .ok () w := run_eqGuard_agg w op _ x y xs ys pt_guard

set_option maxHeartbeats 400000 in
theorem points_equal (A B : Option Addr) (cA cB : Nat) (la lb : List Pt) (w : World) (hA : RdP w A la) (hB : RdP w B lb) (ha : la.length ≤ maxLen) (hb : lb.length ≤ maxLen) :
    Calls Tryz.prog 39 #[.slice A la.length cA, .slice B lb.length cB] w fun e w' => e = .returned (.bool (decide (la = lb))) ∧ Below w.heap.size w w' := by
  have ha : la.length ≤ 9223372036854775807 := ha
  have hb : lb.length ≤ 9223372036854775807 := hb
  by_cases hlen : la.length = lb.length
  · obtain ⟨n, hn⟩ : ∃ n, n = la.length := ⟨_, rfl⟩
    have hn2 : n = lb.length := hn.trans hlen
    rw [← hn, ← hn2]
    have Hn := Lib.hid hn
    have Hn2 := Lib.hid hn2
    have hnb : n ≤ 9223372036854775807 := by omega
    clear hn hn2 ha hb hlen
    go_enter Tryz.func39, Tryz.ntmps39
    go_wp2
    go_loopw [13] (fun i wr => ∃ k : Nat, k ≤ n ∧ i = .int .i64 k ∧ la.take k = lb.take k ∧ ∃ m, wr = w.drewN m) (fun i _ => n - (intOf i).toNat)
    case atStart => exact ⟨0, Nat.zero_le _, rfl, rfl, 0, rfl⟩
    case round =>
      obtain ⟨k, hk, rfl, ht, m, rfl⟩ := hrel
      have Ht := Lib.hid ht
      clear ht
      by_cases hlt : k < n
      · obtain ⟨b, off, rfl, c0, c1, c2⟩ := hA.at_ (k := k) (by rw [← Hn.out]; exact hlt)
        obtain ⟨b', off', rfl, c0', c1', c2'⟩ := hB.at_ (k := k) (by rw [← Hn2.out]; exact hlt)
        have hq := fun w => run_neq_pt w la[k] lb[k]
        have hg := fun w op x y xs ys => run_guard_pt w op x y xs ys
        by_cases heq : la[k] = lb[k]
        · have hd : decide (la[k] = lb[k]) = true := by simp [heq]
          simp only [hd, Bool.not_true] at hq
          have Heq := Lib.hid heq
          clear heq hd
          go_wp2
          go_quiet (fail)
          go_wp2
          go_roundw
          case rel => exact ⟨k + 1, by omega, by go_num, by rw [List.take_succ_eq_append_getElem (by rw [← Hn.out]; exact hlt), List.take_succ_eq_append_getElem (by rw [← Hn2.out]; exact hlt), Ht.out, Heq.out], _, rfl⟩
          case measure => simp [intOf]; omega
        · have hd : decide (la[k] = lb[k]) = false := by simp [heq]
          simp only [hd, Bool.not_false] at hq
          clear hd
          go_wp2
          go_quiet (fail)
          go_wp2
          go_ret
          refine ⟨ret_bool ?_, bdr (bdr (Below.refl _ _) _) _⟩
          have : ¬ la = lb := fun e => by subst e; exact heq rfl
          simp [this]
      · go_wp2
        go_ret
        refine ⟨ret_bool ?_, bdr (Below.refl _ _) _⟩
        have : la = lb := by
          have := Ht.out
          rwa [List.take_of_length_le (by rw [← Hn.out]; omega), List.take_of_length_le (by rw [← Hn2.out]; omega)] at this
        simp [this]
  · have hl0 : ((la.length : Int) == (lb.length : Int)) = false := by simp; omega
    have hl1 : ((la.length : Int) != (lb.length : Int)) = true := by simp; omega
    have hne : ¬ la = lb := fun e => hlen (by rw [e])
    go_enter Tryz.func39, Tryz.ntmps39
    go_wp2
    go_ret
    refine ⟨by simp [hne], Below.refl _ _⟩

/-- a list of points, in a slice -/
abbrev SlP (w : World) (D : Nat → Prop) (v : Value) (l : List Pt) : Prop := Slc 3 Pt.enc w D v l
def OwnedPost (w : World) (l : List Pt) (e : Ending) (w' : World) : Prop := ∃ v, e = .returned v ∧ SlP w' (fun k => w.heap.size ≤ k) v l ∧ Below w.heap.size w w'
set_option maxRecDepth 100000 in
set_option maxHeartbeats 400000 in
theorem head_owned {D : Nat → Prop} (v : Value) (l : List Pt) (w : World) (hv : SlP w D v l) (hl : l.length ≤ 1000000) :
    Calls Tryz.prog 59 #[v] w (OwnedPost w l) := by
  have hsrc := hv.src pt_len pt_one (by decide)
  obtain ⟨A, c, rfl, h1, h2, h3, h4, h5⟩ := hv
  clear h1 h2 h3 h4 h5
  obtain ⟨n, hn⟩ : ∃ n, n = l.length := ⟨_, rfl⟩
  rw [← hn] at hl hsrc ⊢
  have Hn := Lib.hid hn
  have Hs := Lib.hid hsrc
  clear hn hsrc
  obtain ⟨i0, hi, hz0, hz1, hz2⟩ := info_parts info_pt
  go_enter Tryz.func59, Tryz.ntmps59
  go_wp2_with (first | (at_make; refine wpList_make_full _ rfl _ _ 54 rfl w.heap.size 68 i0 _ 3 Tryz.underlying54 hi hz0 hz1 .i64 .i64 _ _ n rfl rfl rfl rfl (by rw [hz2]; omega) (by simp only [maxLen]; omega) (Nat.le_refl _) ?_; intro w1 hO hg; have hB1 := grown_below hg; have hs1 := Lib.hid (Hs.out.below hB1)) | (refine wpList_copy_full (o := ⟨some 9, _, _, _, _, _⟩) (w0 := w) w.heap.size rfl _ _ 54 68 3 n _ _ rfl Tryz.underlying54 size_pt w.heap.size _ rfl rfl hO hs1.out hB1 ?_; intro w2 hO2 hB2 _))
  go_ret
  exact ⟨_, rfl, own_slc pt_len Hn.out hO2, hB2⟩
end Go.Proofs.YtbjglcdoekbloaaGreatDoor

/- points.Put. -/
namespace Go.Proofs.YtbjglcdoekbloaaGreatDoor
open Go.RowKit

theorem slc_head {P : Program} {t e : TypeId} {kl : IntKind} {sz : Nat} {α : Type} {enc : α → List Value} (ht : P.underlying t = some (.slice e)) (hsz : (P.info? e).map (·.size) = some sz) (A : Option Addr) (n c i : Nat) (hi : i ≤ n) (hc : n ≤ c) :
    (∀ W : World, (Instr.slice t (.slice A n c) none (some (.int kl (i : Int))) (some (.int kl (i : Int)))).run P W = .ok (.slice A i i) W) ∧
      ∀ (w : World) (D : Nat → Prop) (l : List α), n = l.length → Slc sz enc w D (.slice A n c) l → Slc sz enc w D (.slice A i i) (l.take i) := by
  refine ⟨fun W => ?_, fun w D l hn h => ?_⟩
  · have hel : P.elem t = e := by simp [Program.elem, ht]
    have hu : P.underlying t = some (.slice (P.elem t)) := by rw [hel]; exact ht
    obtain ⟨i0, hi0, hs0⟩ := Option.map_eq_some_iff.1 hsz
    rw [run_slice_hm W t A n c hu kl kl (i : Int) (i : Int) (by omega) (by omega) (by omega), hel]
    simp [sizeOf, typeInfo, hi0, sliced, Result.andThen]
    intro _
    cases A with
    | none => rfl
    | some ad => simp [Addr.add]
  · obtain ⟨A', c', e1, h1, h2, h3, h4, h5⟩ := h
    cases e1
    have hl : (l.take i).length = i := by rw [List.length_take]; omega
    refine ⟨A, i, by rw [hl], by rw [hl]; exact Nat.le_refl _, by omega, (fun e2 => ?_), (fun ad ha hne => h4 ad ha (fun e => hne (by rw [e]; simp))), ?_⟩
    · have := h3 e2; omega
    · intro j x hx
      have hj : j < i := by
        have := (List.getElem?_eq_some_iff.1 hx).1; rw [hl] at this; exact this
      rw [List.getElem?_take_of_lt hj] at hx
      exact h5 j x hx

theorem slc_tail {P : Program} {t e : TypeId} {kl : IntKind} {sz : Nat} {α : Type} {enc : α → List Value} (ht : P.underlying t = some (.slice e)) (hsz : (P.info? e).map (·.size) = some sz) (hs0 : 0 < sz) (A : Option Addr) (n c i : Nat) (hi : i ≤ n) (hc : n ≤ c) :
    ∃ A1 : Option Addr, (∀ W : World, (Instr.slice t (.slice A n c) (some (.int kl (i : Int))) none none).run P W = .ok (.slice A1 (n - i) (c - i)) W) ∧
      ∀ (w : World) (D : Nat → Prop) (l : List α), n = l.length → Slc sz enc w D (.slice A n c) l → Slc sz enc w D (.slice A1 (n - i) (c - i)) (l.drop i) := by
  refine ⟨if c = i then A else A.map (·.add (i * sz)), fun W => ?_, fun w D l hn h => ?_⟩
  · have hel : P.elem t = e := by simp [Program.elem, ht]
    have hu : P.underlying t = some (.slice (P.elem t)) := by rw [hel]; exact ht
    obtain ⟨i0, hi0, hs0⟩ := Option.map_eq_some_iff.1 hsz
    rw [run_slice_l W t A n c hu kl (i : Int) (Int.natCast_nonneg _) (by omega), hel]
    simp [sizeOf, typeInfo, hi0, hs0, sliced, Result.andThen]
  · obtain ⟨A', c', e1, h1, h2, h3, h4, h5⟩ := h
    cases e1
    have hl : (l.drop i).length = l.length - i := List.length_drop
    refine ⟨_, c - i, by rw [hl, hn], by rw [hl]; omega, by omega, (fun e2 => ?_), (fun ad ha hne => ?_), ?_⟩
    · by_cases hci : c = i
      · omega
      · rw [if_neg hci] at e2
        have : A = none := by cases A with
          | none => rfl
          | some ad => simp at e2
        have := h3 this; omega
    · have hl0 : l ≠ [] := fun e => hne (by rw [e]; simp)
      by_cases hci : c = i
      · rw [if_pos hci] at ha; exact h4 ad ha hl0
      · rw [if_neg hci] at ha
        cases A with
        | none => simp at ha
        | some a0 =>
          simp at ha
          have h40 := h4 a0 rfl hl0
          obtain ⟨b0, o0, s0⟩ := a0
          have : s0 = none := h40.1
          subst this
          rw [add_plain] at ha
          subst ha
          exact ⟨rfl, h40.2⟩
    · intro j x hx
      have hj : i + j < l.length := by
        have := (List.getElem?_eq_some_iff.1 hx).1; rw [hl] at this; omega
      rw [List.getElem?_drop] at hx
      obtain ⟨b, off, eA, hcell⟩ := h5 (i + j) x hx
      have hci : ¬ c = i := by omega
      refine ⟨b, off + i * sz, by rw [if_neg hci, eA]; simp [add_plain], fun r u hr => ?_⟩
      have := hcell r u hr
      rw [← this]; congr 2; rw [Nat.add_mul]; omega

def toldF (p q : Pt) : Int := if q.V = p.V then 2 else if aheadB p q = true then 3 else 4
def putF (l : List Pt) (p : Pt) : List Pt × Int × Int :=
  if p.S = 0 ∨ rightP l = false then (l, 0, 1)
  else if hasP l p.T = false then (if 65536 ≤ l.length then (l, 0, 5) else (l.take (lowP l p.T) ++ p :: l.drop (lowP l p.T), 1, 0))
  else if p = (l[lowP l p.T]?.getD p) ∨ aheadB p (l[lowP l p.T]?.getD p) = false then (l, toldF p (l[lowP l p.T]?.getD p), 0)
  else (l.set (lowP l p.T) p, toldF p (l[lowP l p.T]?.getD p), 0)

def PutPost (w : World) (v : Value) (l : List Pt) (r : List Pt × Int × Int) (e : Ending) (w' : World) : Prop :=
  ∃ v', e = .returned (.tuple #[v', .int .i64 r.2.1, .int .i64 r.2.2]) ∧ Below w.heap.size w w' ∧ ∀ D : Nat → Prop, SlP w D v l → (∀ k, w.heap.size ≤ k → D k) → SlP w' D v' r.1
theorem PutPost.same {w w' : World} {v : Value} {l : List Pt} {a b : Int} {e : Ending} (h : e = .returned (.tuple #[v, .int .i64 a, .int .i64 b])) (hb : Below w.heap.size w w') : PutPost w v l (l, a, b) e w' :=
  ⟨v, h, hb, fun D hD _ => hD.below hb⟩
theorem rightP_rising {l : List Pt} (h : rightP l = true) : Rising l ∧ l.length ≤ 65536 := by
  unfold rightP at h
  simp only [Bool.and_eq_true, decide_eq_true_eq] at h
  refine ⟨?_, h.2⟩
  have : ∀ (l : List Pt) (pv : Option Int), rfromP pv l = true → (∀ x ∈ l, ∀ u, pv = some u → u < x.T) ∧ Rising l := by
    intro l
    induction l with
    | nil => intro pv _; exact ⟨by simp, List.Pairwise.nil⟩
    | cons x r ih =>
      intro pv h
      simp only [rfromP, Bool.and_eq_true] at h
      obtain ⟨h1, h2⟩ := ih (some x.T) h.2
      have hx : ∀ u, pv = some u → u < x.T := by
        intro u hu; subst hu
        have := h.1.2; simp [notAfter] at this; omega
      refine ⟨?_, List.Pairwise.cons (fun y hy => h1 y hy x.T rfl) h2⟩
      intro y hy u hu
      rcases List.mem_cons.1 hy with rfl | hy
      · exact hx u hu
      · have := h1 y hy x.T rfl; have := hx u hu; omega
  exact (this l none h.1).2

set_option maxRecDepth 100000 in
set_option maxHeartbeats 1000000 in
theorem put_bad {D : Nat → Prop} (v : Value) (l : List Pt) (p : Pt) (w : World) (hv : SlP w D v l) (hp : p.S = 0 ∨ rightP l = false) :
    Calls Tryz.prog 38 #[v, .agg #[.int .i64 p.T, .int .u64 p.V, .int .u64 p.S]] w (PutPost w v l (l, 0, 1)) := by
  by_cases h0 : p.S = 0
  · have s0 : (p.S == 0) = true := by simpa using h0
    clear hp h0
    go_enter Tryz.func38, Tryz.ntmps38
    go_wp2
    go_ret3
    exact PutPost.same rfl (balloc (Below.refl _ _) _)
  · have s0 : (p.S == 0) = false := by simpa using h0
    have hr : rightP l = false := by rcases hp with h | h; exact absurd h h0; exact h
    clear hp h0
    have hvw := hv.below (w' := w.alloc (.cells #[.int .i64 p.T, .int .u64 p.V, .int .u64 p.S] 68)) (balloc (Below.refl _ _) _)
    obtain ⟨A, c, rfl, h1, h2, h3, h4, h5⟩ := hvw
    have hcall := points_right A c l _ h5 (Nat.le_trans h1 h2)
    rw [hr] at hcall
    clear h3 h4 h5 h1 h2 hv
    go_enter Tryz.func38, Tryz.ntmps38
    go_wp2_with (go_at_call 78; refine hcall.mono ?_; rintro e w1 ⟨rfl, hb⟩)
    go_ret3
    exact PutPost.same rfl (bthen (balloc (Below.refl _ _) _) hb)
end Go.Proofs.YtbjglcdoekbloaaGreatDoor
