import Derived.Test.YtlhmdgaohonpbaaGreatDoorGLab
set_option linter.unusedSimpArgs false
set_option linter.unusedVariables false
set_option linter.unusedSectionVars false
namespace Go.Proofs.YtlhmdgaohonpbaaGreatDoor
def entL (x : Lb) : List UInt8 := x.n.data.toList ++ 61 :: quoteF x.v.data.toList
def bodyN : List Lb → List UInt8
 | [] => []
 | x :: r => 44 :: 32 :: (entL x ++ bodyN r)
def bodyL : List Lb → List UInt8
 | [] => []
 | x :: r => entL x ++ bodyN r
theorem bytes_append (a b : ByteArray) : (a ++ b).data.toList = a.data.toList ++ b.data.toList := by simp
theorem step_bytes (i : Nat) (out : ByteArray) (x : Lb) : (stepP i out x).data.toList = out.data.toList ++ ((if 0 < i then [44, 32] else []) ++ entL x) := by
 unfold stepP sepP
 rw [bytes_append, bytes_append, bytes_append]
 by_cases h : 0 < i
 ·rw [if_pos h, if_pos h, bytes_append]; simp [sB, quoteB, entL]
 ·rw [if_neg h, if_neg h]; simp [sB, quoteB, entL]
theorem from_bytes : ∀ (l : List Lb) (i : Nat) (out : ByteArray), 0 < i → (printFrom i out l).data.toList = out.data.toList ++ bodyN l
 | [], i, out, _ => by simp [printFrom, bodyN]
 | x :: r, i, out, h => by
  rw [printFrom, from_bytes r (i + 1) _ (by omega), step_bytes, if_pos h]
  simp [bodyN]
theorem print_bytes (l : List Lb) : (printF l).data.toList = 123 :: (bodyL l ++ [125]) := by
 unfold printF
 rw [bytes_append]
 cases l with
 | nil => simp [printFrom, bodyL, sB]
 | cons x r =>
  rw [printFrom, from_bytes r 1 _ (by omega), step_bytes, if_neg (by omega)]
  simp [bodyL, sB]
theorem esc_inj : ∀ (v v' : List UInt8) (t t' : List UInt8), v.flatMap escB ++ 34 :: t = v'.flatMap escB ++ 34 :: t' → v = v' ∧ t = t'
 | [], [], t, t', h => by simpa using h
 | [], c :: r, t, t', h => by
  exfalso
  rw [List.flatMap_nil, List.nil_append, List.flatMap_cons] at h
  unfold escB at h
  by_cases h1 : c = 34 ∨ c = 92
  ·rw [if_pos h1] at h; simp at h
  ·rw [if_neg h1] at h
   by_cases h2 : c = 10
   ·rw [if_pos h2] at h; simp at h
   ·rw [if_neg h2] at h; simp at h; exact h1 (.inl h.1.symm)
 | c :: r, [], t, t', h => by
  exfalso
  rw [List.flatMap_nil, List.nil_append, List.flatMap_cons] at h
  unfold escB at h
  by_cases h1 : c = 34 ∨ c = 92
  ·rw [if_pos h1] at h; simp at h
  ·rw [if_neg h1] at h
   by_cases h2 : c = 10
   ·rw [if_pos h2] at h; simp at h
   ·rw [if_neg h2] at h; simp at h; exact h1 (.inl h.1)
 | c :: r, d :: s, t, t', h => by
  have key : c = d ∧ r.flatMap escB ++ 34 :: t = s.flatMap escB ++ 34 :: t' := by
   rw [List.flatMap_cons, List.flatMap_cons, List.append_assoc, List.append_assoc] at h
   unfold escB at h
   by_cases h1 : c = 34 ∨ c = 92
   ·rw [if_pos h1] at h
    by_cases g1 : d = 34 ∨ d = 92
    ·rw [if_pos g1] at h
     simp only [List.cons_append, List.nil_append, List.cons.injEq, true_and] at h
     exact h
    ·rw [if_neg g1] at h
     by_cases g2 : d = 10
     ·rw [if_pos g2] at h
      simp only [List.cons_append, List.nil_append, List.cons.injEq, true_and] at h
      rcases h1 with e | e <;> (rw [e] at h; exact absurd h.1 (by decide))
     ·rw [if_neg g2] at h
      simp only [List.cons_append, List.nil_append, List.cons.injEq] at h
      exact (g1 (.inr h.1.symm)).elim
   ·rw [if_neg h1] at h
    by_cases h2 : c = 10
    ·rw [if_pos h2] at h
     by_cases g1 : d = 34 ∨ d = 92
     ·rw [if_pos g1] at h
      simp only [List.cons_append, List.nil_append, List.cons.injEq, true_and] at h
      rcases g1 with e | e <;> (rw [e] at h; exact absurd h.1 (by decide))
     ·rw [if_neg g1] at h
      by_cases g2 : d = 10
      ·rw [if_pos g2] at h
       simp only [List.cons_append, List.nil_append, List.cons.injEq, true_and] at h
       exact ⟨by rw [h2, g2], h⟩
      ·rw [if_neg g2] at h
       simp only [List.cons_append, List.nil_append, List.cons.injEq] at h
       exact (g1 (.inr h.1.symm)).elim
    ·rw [if_neg h2] at h
     by_cases g1 : d = 34 ∨ d = 92
     ·rw [if_pos g1] at h
      simp only [List.cons_append, List.nil_append, List.cons.injEq] at h
      exact (h1 (.inr h.1)).elim
     ·rw [if_neg g1] at h
      by_cases g2 : d = 10
      ·rw [if_pos g2] at h
       simp only [List.cons_append, List.nil_append, List.cons.injEq] at h
       exact (h1 (.inr h.1)).elim
      ·rw [if_neg g2] at h
       simp only [List.cons_append, List.nil_append, List.cons.injEq] at h
       exact h
  obtain ⟨e, h2⟩ := key
  obtain ⟨e1, e2⟩ := esc_inj r s t t' h2
  exact ⟨by rw [e, e1], e2⟩
theorem split_at {α : Type} (z : α) : ∀ (n n' t t' : List α), z ∉ n → z ∉ n' → n ++ z :: t = n' ++ z :: t' → n = n' ∧ t = t'
 | [], [], t, t', _, _, h => by simpa using h
 | [], c :: r, t, t', _, h2, h => by simp at h; exact (h2 (by simp [h.1])).elim
 | c :: r, [], t, t', h1, _, h => by simp at h; exact (h1 (by simp [h.1])).elim
 | c :: r, d :: s, t, t', h1, h2, h => by
  simp only [List.cons_append, List.cons.injEq] at h
  obtain ⟨e1, e2⟩ := split_at z r s t t' (fun h => h1 (List.mem_cons_of_mem _ h)) (fun h => h2 (List.mem_cons_of_mem _ h)) h.2
  exact ⟨by rw [h.1, e1], e2⟩
def NameOk (n : ByteArray) : Prop := n.data.toList ≠ [] ∧ ∀ c ∈ n.data.toList, isL c.toNat = true
theorem named_ok {n : ByteArray} (h : namedF n = true) : NameOk n := by
 unfold namedF at h
 simp only [Bool.and_eq_true, decide_eq_true_eq] at h
 obtain ⟨⟨⟨h1, h2⟩, h3⟩, h4⟩ := h
 refine ⟨fun e => ?_, fun c hc => ?_⟩
 ·have : n.data.toList.length = n.size := by rw [Array.length_toList]; rfl
  rw [e] at this; simp at this; omega
 ·unfold restOk at h3
  rw [List.drop_zero] at h3
  exact List.all_eq_true.1 h3 c hc
theorem right_names : ∀ (l : List Lb) (p : Option ByteArray), rightFrom p l = 0 → ∀ x ∈ l, NameOk x.n
 | [], _, _, x, hx => by simp at hx
 | y :: r, p, h, x, hx => by
  rw [rightFrom] at h
  by_cases h1 : wrongF y false = 0
  ·rw [if_neg (by simp [h1])] at h
   by_cases h2 : behindF p y.n = true
   ·rw [if_pos h2] at h; cases h
   ·rw [if_neg h2] at h
    rcases List.mem_cons.1 hx with rfl | hx
    ·unfold wrongF at h1
     cases hn : namedF x.n with
     | true => exact named_ok hn
     | false => rw [if_pos hn] at h1; cases h1
    ·exact right_names r _ h x hx
  ·rw [if_pos h1] at h; exact (h1 h).elim
theorem isL_ne {c : UInt8} (h : isL c.toNat = true) : c ≠ 61 ∧ c ≠ 125 ∧ c ≠ 44 := by
 refine ⟨fun e => ?_, fun e => ?_, fun e => ?_⟩ <;> (subst e; revert h; decide)
theorem bodyN_inj : ∀ (l l' : List Lb), (∀ x ∈ l, NameOk x.n) → (∀ x ∈ l', NameOk x.n) → bodyN l ++ [125] = bodyN l' ++ [125] → l = l'
 | [], [], _, _, _ => rfl
 | [], y :: s, _, _, h => by simp [bodyN] at h
 | x :: r, [], _, _, h => by simp [bodyN] at h
 | x :: r, y :: s, h1, h2, h => by
  simp only [bodyN, List.cons_append, List.cons.injEq, true_and, entL, quoteF, List.append_assoc] at h
  have hx := h1 x (List.mem_cons_self ..)
  have hy := h2 y (List.mem_cons_self ..)
  obtain ⟨e1, h3⟩ := split_at 61 _ _ _ _ (fun hm => (isL_ne (hx.2 _ hm)).1 rfl) (fun hm => (isL_ne (hy.2 _ hm)).1 rfl) h
  simp only [List.cons.injEq, true_and, List.nil_append] at h3
  obtain ⟨e2, h4⟩ := esc_inj _ _ _ _ h3
  have ih := bodyN_inj r s (fun z hz => h1 z (List.mem_cons_of_mem _ hz)) (fun z hz => h2 z (List.mem_cons_of_mem _ hz)) h4
  have en : x.n = y.n := ByteArray.ext (Array.toList_inj.1 e1)
  have ev : x.v = y.v := ByteArray.ext (Array.toList_inj.1 e2)
  rw [ih, Lb.ext' en ev]
theorem print_inj {l l' : List Lb} (h1 : rightF l = 0) (h2 : rightF l' = 0) (h : printF l = printF l') : l = l' := by
 have r1 : rightFrom none l = 0 := by unfold rightF at h1; by_cases hl : 16 < l.length; rw [if_pos hl] at h1; cases h1; rwa [if_neg hl] at h1
 have r2 : rightFrom none l' = 0 := by unfold rightF at h2; by_cases hl : 16 < l'.length; rw [if_pos hl] at h2; cases h2; rwa [if_neg hl] at h2
 have n1 := right_names l _ r1
 have n2 := right_names l' _ r2
 have hb := congrArg (fun b : ByteArray => b.data.toList) h
 simp only [print_bytes, List.cons.injEq, true_and] at hb
 cases l with
 | nil =>
  cases l' with
  | nil => rfl
  | cons y s =>
   exfalso
   have hy := n2 y (List.mem_cons_self ..)
   cases hn : y.n.data.toList with
   | nil => exact hy.1 hn
   | cons c q =>
    simp [bodyL, entL, hn] at hb
 | cons x r =>
  cases l' with
  | nil =>
   exfalso
   have hx := n1 x (List.mem_cons_self ..)
   cases hn : x.n.data.toList with
   | nil => exact hx.1 hn
   | cons c q =>
    simp [bodyL, entL, hn] at hb
  | cons y s =>
   have := bodyN_inj (x :: r) (y :: s) n1 n2 (by simpa [bodyN, bodyL] using hb)
   exact this
end Go.Proofs.YtlhmdgaohonpbaaGreatDoor
