import Derived.Test.YtlhmdgaohonpbaaGreatDoorGLab
import Derived.BigQuiet
import Derived.Deep.RegionHeld3
set_option linter.unusedSimpArgs false
set_option linter.unusedVariables false
set_option linter.unusedSectionVars false
namespace Go.Proofs.YtlhmdgaohonpbaaGreatDoor
open Go.RowKit
theorem isL_iff (c : Int) : isL c = true ↔ (97 ≤ c ∧ c ≤ 122) ∨ (65 ≤ c ∧ c ≤ 90) ∨ c = 95 ∨ (48 ≤ c ∧ c ≤ 57) := by
 unfold isL isF
 simp only [Bool.or_eq_true, Bool.and_eq_true, decide_eq_true_eq]
 omega
set_option maxHeartbeats 1000000 in
theorem ref_letter (c : Int) (w : World) (h0 : 0 ≤ c) (h1 : c ≤ 255) : Calls Tryz.prog 69 #[.int .u8 c] w fun e w' => e = .returned (.bool (isL c)) ∧ w' = w := by
 go_enter Tryz.func69, Tryz.ntmps69
 go_wp2
 all_goals (go_ret; refine ⟨ret_bool ?_, rfl⟩)
 all_goals (rw [Bool.eq_iff_iff, isL_iff])
 all_goals (first | (simp only [decide_eq_true_eq, true_iff, iff_true]; omega) | (simp only [Bool.or_eq_true, decide_eq_true_eq, beq_iff_eq]; omega))
structure LettersTo (s : ByteArray) (k : Nat) : Prop where
 rest : restOk s 0 = restOk s k
 ok : ∀ i, i < k → ∀ h : i < s.size, isL (s[i]'h).toNat = true
theorem LettersTo.start (s : ByteArray) : LettersTo s 0 := ⟨rfl, fun i h => by omega⟩
theorem LettersTo.round {s : ByteArray} {k : Nat} (h : LettersTo s k) (hk : k < s.size) : (isL (s[k]'hk).toNat = true ∧ LettersTo s (k + 1)) ∨ (isL (s[k]'hk).toNat = false ∧ restOk s 0 = false) := by
 have hs := restOk_step hk
 cases hL : isL (s[k]'hk).toNat with
 | true =>
  refine .inl ⟨rfl, ⟨by rw [h.rest, hs, hL, Bool.true_and], fun i hi hi2 => ?_⟩⟩
  by_cases e : i = k
  ·subst e; exact hL
  ·exact h.ok i (by omega) hi2
 | false => exact .inr ⟨rfl, by rw [h.rest, hs, hL, Bool.false_and]⟩
theorem LettersTo.done {s : ByteArray} {k : Nat} (h : LettersTo s k) (hk : ¬ k < s.size) : restOk s 0 = true := by rw [h.rest, restOk_end hk]
theorem first_iff {s : ByteArray} (h : 0 < s.size) (hr : restOk s 0 = true) : firstF s = (decide ((s[0]'h).toNat < 48) || decide (57 < (s[0]'h).toNat)) := by
 have hf : firstF s = isF ((s[0]'h).toNat : Nat) := by
  unfold firstF
  have h' : 0 < s.data.toList.length := by simpa using h
  rw [show s.data.toList = s.data.toList.drop 0 from rfl, List.drop_eq_getElem_cons h']
  rfl
 rw [restOk_step h, Bool.and_eq_true] at hr
 have hl := hr.1
 rw [hf]
 unfold isL at hl
 cases hF : isF ((s[0]'h).toNat : Nat) with
 | true => unfold isF at hF; simp at hF ⊢; omega
 | false => rw [hF] at hl; simp at hl ⊢; omega
set_option maxHeartbeats 1000000 in
theorem ref_named (s : ByteArray) (w : World) (hs : s.size ≤ maxLen) :
  Calls Tryz.prog 45 #[.string s] w fun e w' => e = .returned (.bool (namedF s)) ∧ w' = w := by
 unfold maxLen at hs
 obtain ⟨n, hn⟩ : ∃ n, n = s.size := ⟨_, rfl⟩
 go_enter Tryz.func45, Tryz.ntmps45
 go_wp2
 go_loopw [6] (fun i wr => ∃ k : Nat, k ≤ s.size ∧ i = .int .i64 k ∧ LettersTo s k ∧ wr = w) (fun i _ => s.size - (intOf i).toNat)
 case atStart => exact ⟨0, Nat.zero_le _, rfl, LettersTo.start s, rfl⟩
 case round =>
  obtain ⟨k, hk, rfl, hL, rfl⟩ := hrel
  by_cases hlt : k < s.size
  ·have hg := get_at s k hlt
   have hb := (s[k]'hlt).toNat_lt
   rcases hL.round hlt with ⟨hc, hL2⟩ | ⟨hc, hr⟩
   ·have HL2 := Lib.hid hL2
    have HC := Lib.hid hc
    clear hL hL2 hc
    go_wp2_with fail
    refine (ref_letter _ _ (by omega) (by omega)).mono ?_
    rintro e w' ⟨rfl, rfl⟩
    rw [HC.out]
    go_wp2_with fail
    go_roundw
    case rel => exact ⟨k + 1, by omega, by go_num, HL2.out, by first | rfl | trivial⟩
    case measure => simp [intOf] <;> omega
   ·have HC := Lib.hid hc
    have hnf : namedF s = false := by rw [namedF_eq, hr]; simp
    clear hL hc hr
    go_wp2_with fail
    refine (ref_letter _ _ (by omega) (by omega)).mono ?_
    rintro e w' ⟨rfl, rfl⟩
    rw [HC.out]
    go_wp2_with fail
    go_ret
    exact ⟨ret_bool hnf.symm, rfl⟩
  ·have hr := hL.done hlt
   by_cases h0 : 0 < s.size
   ·have hf := first_iff h0 hr
    have hnf : namedF s = (decide (s.size ≤ 64) && (decide ((s[0]'h0).toNat < 48) || decide (57 < (s[0]'h0).toNat))) := by rw [namedF_eq, hr, hf]; simp [h0]
    have HN := Lib.hid hnf
    clear hf hnf hL hr
    go_wp2
    all_goals (go_ret; refine ⟨ret_bool ?_, rfl⟩; rw [HN.out])
    all_goals rw [Bool.eq_iff_iff]
    all_goals (first | (simp only [Bool.or_eq_true, Bool.and_eq_true, decide_eq_true_eq]; omega) | (simp only [true_iff, Bool.or_eq_true, Bool.and_eq_true, decide_eq_true_eq]; omega) | (simp only [reduceCtorEq, false_iff, Bool.or_eq_true, Bool.and_eq_true, decide_eq_true_eq]; omega))
   ·have hnf : namedF s = false := by rw [namedF_eq]; simp [show ¬ 0 < s.size from h0]
    have HN := Lib.hid hnf
    clear hnf hL hr
    go_wp2
    go_ret
    refine ⟨ret_bool ?_, rfl⟩
    rw [HN.out]
end Go.Proofs.YtlhmdgaohonpbaaGreatDoor

namespace Go.Proofs.YtlhmdgaohonpbaaGreatDoor
open Go.RowKit
def byt (s : ByteArray) (k : Nat) : Nat := (s.get! k).toNat
theorem byt_at (s : ByteArray) (k : Nat) (h : k < s.size) : byt s k = (s[k]'h).toNat := by unfold byt; rw [get_at s k h]
def moreV (s : ByteArray) (a n : Nat) : Bool := decide (a + n ≤ s.size) && (List.range n).all (fun i => decide (byt s (a + i) / 64 = 2))
structure MoreTo (s : ByteArray) (a k : Nat) : Prop where
 ok : ∀ i, i < k → byt s (a + i) / 64 = 2
theorem MoreTo.start (s : ByteArray) (a : Nat) : MoreTo s a 0 := ⟨fun i h => by omega⟩
theorem MoreTo.round {s : ByteArray} {a k : Nat} (h : MoreTo s a k) (hk : byt s (a + k) / 64 = 2) : MoreTo s a (k + 1) := ⟨fun i hi => by
 by_cases e : i = k
 ·subst e; exact hk
 ·exact h.ok i (by omega)⟩
theorem more_true {s : ByteArray} {a n : Nat} (h : MoreTo s a n) (hn : a + n ≤ s.size) : moreV s a n = true := by
 unfold moreV
 simp only [Bool.and_eq_true, decide_eq_true_eq, List.all_eq_true, List.mem_range]
 exact ⟨hn, h.ok⟩
theorem more_false {s : ByteArray} {a n k : Nat} (hk : k < n) (h : ¬ byt s (a + k) / 64 = 2) : moreV s a n = false := by
 cases hm : moreV s a n with
 | false => rfl
 | true =>
  unfold moreV at hm
  simp only [Bool.and_eq_true, decide_eq_true_eq, List.all_eq_true, List.mem_range] at hm
  exact (h (hm.2 k hk)).elim
theorem more_out {s : ByteArray} {a n : Nat} (h : ¬ a + n ≤ s.size) : moreV s a n = false := by
 unfold moreV; simp [h]
set_option maxHeartbeats 1000000 in
theorem ref_more (s : ByteArray) (a n : Nat) (w : World) (hs : s.size ≤ maxLen) (ha : a ≤ s.size) (hn : n ≤ 8) :
  Calls Tryz.prog 110 #[.string s, .int .i64 a, .int .i64 n] w fun e w' => e = .returned (.bool (moreV s a n)) ∧ w' = w := by
 unfold maxLen at hs
 by_cases hout : a + n ≤ s.size
 ·have hgt : decide ((s.size : Int) - (n : Int) < (a : Int)) = false := decide_eq_false (by omega)
  go_enter Tryz.func110, Tryz.ntmps110
  go_wp2
  go_loopw [15] (fun i wr => ∃ k : Nat, k ≤ n ∧ i = .int .i64 k ∧ MoreTo s a k ∧ wr = w) (fun i _ => n - (intOf i).toNat)
  case atStart => exact ⟨0, Nat.zero_le _, rfl, MoreTo.start s a, rfl⟩
  case round =>
   obtain ⟨k, hk, rfl, hM, rfl⟩ := hrel
   by_cases hlt : k < n
   ·have hak : a + k < s.size := by omega
    have hg := get_at s (a + k) hak
    have hb := (s[a + k]'hak).toNat_lt
    have hby := byt_at s (a + k) hak
    by_cases h2 : byt s (a + k) / 64 = 2
    ·have HM := Lib.hid (hM.round h2)
     rw [hby] at h2
     clear hM hby
     go_wp2
     go_roundw
     case rel => exact ⟨k + 1, by omega, by go_num, HM.out, by first | rfl | trivial⟩
     case measure => simp [intOf] <;> omega
    ·have hf := more_false hlt h2
     rw [hby] at h2
     have HF := Lib.hid hf
     clear hf hM hby
     go_wp2
     go_ret
     exact ⟨ret_bool HF.out.symm, rfl⟩
   ·have hkn : k = n := by omega
    subst hkn
    have HF := Lib.hid (more_true hM hout)
    clear hM
    go_wp2
    go_ret
    exact ⟨ret_bool HF.out.symm, rfl⟩
 ·have hgt : decide ((s.size : Int) - (n : Int) < (a : Int)) = true := decide_eq_true (by omega)
  have HF := Lib.hid (more_out hout)
  go_enter Tryz.func110, Tryz.ntmps110
  go_wp2
  go_ret
  exact ⟨ret_bool HF.out.symm, rfl⟩
def stepB (s : ByteArray) (a : Nat) : Nat :=
 if byt s a < 128 then 1
 else if 194 ≤ byt s a ∧ byt s a < 224 ∧ moreV s (a + 1) 1 = true then 2
 else if 224 ≤ byt s a ∧ byt s a < 240 ∧ moreV s (a + 1) 2 = true then
  (if 2048 ≤ byt s a % 16 * 4096 + byt s (a + 1) % 64 * 64 + byt s (a + 2) % 64 ∧ (byt s a % 16 * 4096 + byt s (a + 1) % 64 * 64 + byt s (a + 2) % 64 < 55296 ∨ 57343 < byt s a % 16 * 4096 + byt s (a + 1) % 64 * 64 + byt s (a + 2) % 64) then 3 else 0)
 else if 240 ≤ byt s a ∧ byt s a < 245 ∧ moreV s (a + 1) 3 = true then
  (if 65536 ≤ byt s a % 8 * 262144 + byt s (a + 1) % 64 * 4096 + byt s (a + 2) % 64 * 64 + byt s (a + 3) % 64 ∧ byt s a % 8 * 262144 + byt s (a + 1) % 64 * 4096 + byt s (a + 2) % 64 * 64 + byt s (a + 3) % 64 ≤ 1114111 then 4 else 0)
 else 0
end Go.Proofs.YtlhmdgaohonpbaaGreatDoor

namespace Go.Proofs.YtlhmdgaohonpbaaGreatDoor
open Go.RowKit
theorem more_size {s : ByteArray} {a n : Nat} (h : moreV s a n = true) : a + n ≤ s.size := by
 unfold moreV at h
 simp only [Bool.and_eq_true, decide_eq_true_eq] at h
 exact h.1
set_option maxRecDepth 100000 in
set_option maxHeartbeats 4000000 in
theorem ref_step (s : ByteArray) (a : Nat) (w : World) (hs : s.size ≤ 1000000) (ha : a < s.size) :
  Calls Tryz.prog 87 #[.string s, .int .i64 a] w fun e w' => e = .returned (.int .i64 (stepB s a)) ∧ Below w.heap.size w w' := by
 have hb := (s[a]'ha).toNat_lt
 have hby := byt_at s a ha
 have hmore := fun n (hn : n ≤ 8) (W : World) => ref_more s (a + 1) n W (by simp only [maxLen]; omega) (by omega) hn
 have HMo := Lib.hid hmore
 clear hmore
 have hg := get_at s a ha
 by_cases c1 : (s[a]'ha).toNat < 128
 ·have hst : stepB s a = 1 := by unfold stepB; rw [hby, if_pos c1]
  have HS := Lib.hid hst
  clear hst hby
  go_enter Tryz.func87, Tryz.ntmps87
  go_wp2
  go_ret
  exact ⟨by rw [HS.out]; rfl, Below.refl _ _⟩
 by_cases c2 : 194 ≤ (s[a]'ha).toNat ∧ (s[a]'ha).toNat < 224
 ·obtain ⟨c20, c21⟩ := c2
  obtain ⟨m, hm⟩ : ∃ m, moreV s (a + 1) 1 = m := ⟨_, rfl⟩
  have hst : stepB s a = if m = true then 2 else 0 := by
   unfold stepB; rw [hby, if_neg c1, hm]
   by_cases e : m = true
   ·rw [if_pos ⟨c20, c21, e⟩, if_pos e]
   ·rw [if_neg (fun h => e h.2.2), if_neg (by omega), if_neg (by omega), if_neg e]
  have HS := Lib.hid hst
  have hm1 := HMo.out 1 (by omega)
  rw [hm] at hm1
  have HM1 := Lib.hid hm1
  clear hst hby hm hm1
  go_enter Tryz.func87, Tryz.ntmps87
  go_wp2_with fail
  refine (HM1.out _).mono ?_
  rintro e w' ⟨rfl, rfl⟩
  cases m
  ·go_wp2
   go_ret
   exact ⟨by rw [HS.out]; rfl, Below.refl _ _⟩
  ·go_wp2
   go_ret
   exact ⟨by rw [HS.out]; rfl, Below.refl _ _⟩
 by_cases c3 : 224 ≤ (s[a]'ha).toNat ∧ (s[a]'ha).toNat < 240
 ·obtain ⟨c30, c31⟩ := c3
  obtain ⟨m, hm⟩ : ∃ m, moreV s (a + 1) 2 = m := ⟨_, rfl⟩
  have hm1 := HMo.out 2 (by omega)
  rw [hm] at hm1
  have HM1 := Lib.hid hm1
  cases m
  ·have hst : stepB s a = 0 := by
    unfold stepB; rw [hby, if_neg c1, if_neg (by omega), hm, if_neg (by simp), if_neg (by omega)]
   have HS := Lib.hid hst
   clear hst hby hm hm1
   go_enter Tryz.func87, Tryz.ntmps87
   go_wp2_with fail
   refine (HM1.out _).mono ?_
   rintro e w' ⟨rfl, rfl⟩
   go_wp2
   go_ret
   exact ⟨by rw [HS.out]; rfl, Below.refl _ _⟩
  ·have hsz := more_size hm
   have h1 : a + 1 < s.size := by omega
   have h2 : a + 2 < s.size := by omega
   have hb1 := (s[a + 1]'h1).toNat_lt
   have hb2 := (s[a + 2]'h2).toNat_lt
   obtain ⟨q, hq⟩ : ∃ q, (s[a]'ha).toNat % 16 * 4096 + (s[a + 1]'h1).toNat % 64 * 64 + (s[a + 2]'h2).toNat % 64 = q := ⟨_, rfl⟩
   have hst : stepB s a = if 2048 ≤ q ∧ (q < 55296 ∨ 57343 < q) then 3 else 0 := by
    unfold stepB; rw [hby, if_neg c1, if_neg (by omega), hm, if_pos ⟨c30, c31, rfl⟩, byt_at s (a + 1) h1, byt_at s (a + 2) h2, hq]
   have HS := Lib.hid hst
   have HQ := Lib.hid hq
   have g1 := get_at s (a + 1) h1
   have g2 := get_at s (a + 2) h2
   clear hst hby hm hm1 hq
   go_enter Tryz.func87, Tryz.ntmps87
   go_wp2_with fail
   refine (HM1.out _).mono ?_
   rintro e w' ⟨rfl, rfl⟩
   go_wp2
   have i1 : (0 : Int) ≤ (a : Int) + 1 ∧ (a : Int) + 1 < (s.size : Int) := by omega
   have i2 : (0 : Int) ≤ (a : Int) + 2 ∧ (a : Int) + 2 < (s.size : Int) := by omega
   have n1 : ((a : Int) + 1).toNat = a + 1 := by omega
   have n2 : ((a : Int) + 2).toNat = a + 2 := by omega
   have x1 : s[a + 1]? = some (s[a + 1]'h1) := by simp [h1]
   have x2 : s[a + 2]? = some (s[a + 2]'h2) := by simp [h2]
   go_quiet (fail)
   go_wp2
   all_goals (go_ret; refine ⟨?_, by first | exact bdr (Below.refl _ _) _ | exact bdr (bdr (Below.refl _ _) _) _ | exact Below.refl _ _⟩; have hq := HQ.out; rw [HS.out]; first | (rw [if_pos (by omega)]; rfl) | (rw [if_neg (by omega)]; rfl))
 by_cases c4 : 240 ≤ (s[a]'ha).toNat ∧ (s[a]'ha).toNat < 245
 ·obtain ⟨c40, c41⟩ := c4
  obtain ⟨m, hm⟩ : ∃ m, moreV s (a + 1) 3 = m := ⟨_, rfl⟩
  have hm1 := HMo.out 3 (by omega)
  rw [hm] at hm1
  have HM1 := Lib.hid hm1
  cases m
  ·have hst : stepB s a = 0 := by
    unfold stepB; rw [hby, if_neg c1, if_neg (by omega), if_neg (by omega), hm, if_neg (by simp)]
   have HS := Lib.hid hst
   clear hst hby hm hm1
   go_enter Tryz.func87, Tryz.ntmps87
   go_wp2_with fail
   refine (HM1.out _).mono ?_
   rintro e w' ⟨rfl, rfl⟩
   go_wp2
   go_ret
   exact ⟨by rw [HS.out]; rfl, Below.refl _ _⟩
  ·have hsz := more_size hm
   have h1 : a + 1 < s.size := by omega
   have h2 : a + 2 < s.size := by omega
   have h3 : a + 3 < s.size := by omega
   have hb1 := (s[a + 1]'h1).toNat_lt
   have hb2 := (s[a + 2]'h2).toNat_lt
   have hb3 := (s[a + 3]'h3).toNat_lt
   obtain ⟨q, hq⟩ : ∃ q, (s[a]'ha).toNat % 8 * 262144 + (s[a + 1]'h1).toNat % 64 * 4096 + (s[a + 2]'h2).toNat % 64 * 64 + (s[a + 3]'h3).toNat % 64 = q := ⟨_, rfl⟩
   have hst : stepB s a = if 65536 ≤ q ∧ q ≤ 1114111 then 4 else 0 := by
    unfold stepB; rw [hby, if_neg c1, if_neg (by omega), if_neg (by omega), hm, if_pos ⟨c40, c41, rfl⟩, byt_at s (a + 1) h1, byt_at s (a + 2) h2, byt_at s (a + 3) h3, hq]
   have HS := Lib.hid hst
   have HQ := Lib.hid hq
   clear hst hby hm hm1 hq
   go_enter Tryz.func87, Tryz.ntmps87
   go_wp2_with fail
   refine (HM1.out _).mono ?_
   rintro e w' ⟨rfl, rfl⟩
   go_wp2
   have i1 : (0 : Int) ≤ (a : Int) + 1 ∧ (a : Int) + 1 < (s.size : Int) := by omega
   have i2 : (0 : Int) ≤ (a : Int) + 2 ∧ (a : Int) + 2 < (s.size : Int) := by omega
   have i3 : (0 : Int) ≤ (a : Int) + 3 ∧ (a : Int) + 3 < (s.size : Int) := by omega
   have n1 : ((a : Int) + 1).toNat = a + 1 := by omega
   have n2 : ((a : Int) + 2).toNat = a + 2 := by omega
   have n3 : ((a : Int) + 3).toNat = a + 3 := by omega
   have x1 : s[a + 1]? = some (s[a + 1]'h1) := by simp [h1]
   have x2 : s[a + 2]? = some (s[a + 2]'h2) := by simp [h2]
   have x3 : s[a + 3]? = some (s[a + 3]'h3) := by simp [h3]
   go_quiet (fail)
   go_wp2
   all_goals (go_ret; refine ⟨?_, by first | exact bdr (Below.refl _ _) _ | exact bdr (bdr (Below.refl _ _) _) _ | exact Below.refl _ _⟩; have hq := HQ.out; rw [HS.out]; first | (rw [if_pos (by omega)]; rfl) | (rw [if_neg (by omega)]; rfl))
 ·have hst : stepB s a = 0 := by
   unfold stepB; rw [hby, if_neg c1, if_neg (fun h => c2 ⟨h.1, h.2.1⟩), if_neg (fun h => c3 ⟨h.1, h.2.1⟩), if_neg (fun h => c4 ⟨h.1, h.2.1⟩)]
  have HS := Lib.hid hst
  clear hst hby
  by_cases d1 : (s[a]'ha).toNat < 194
  ·go_enter Tryz.func87, Tryz.ntmps87
   go_wp2
   go_ret
   exact ⟨by rw [HS.out]; rfl, Below.refl _ _⟩
  ·have d2 : 245 ≤ (s[a]'ha).toNat := by omega
   clear c2 c3 c4 d1
   go_enter Tryz.func87, Tryz.ntmps87
   go_wp2
   go_ret
   exact ⟨by rw [HS.out]; rfl, Below.refl _ _⟩
end Go.Proofs.YtlhmdgaohonpbaaGreatDoor

namespace Go.Proofs.YtlhmdgaohonpbaaGreatDoor
open Go.RowKit
theorem step_le (s : ByteArray) (a : Nat) (h : a < s.size) : a + stepB s a ≤ s.size := by
 unfold stepB
 by_cases c1 : byt s a < 128
 ·rw [if_pos c1]; omega
 rw [if_neg c1]
 by_cases c2 : 194 ≤ byt s a ∧ byt s a < 224 ∧ moreV s (a + 1) 1 = true
 ·rw [if_pos c2]; have := more_size c2.2.2; omega
 rw [if_neg c2]
 by_cases c3 : 224 ≤ byt s a ∧ byt s a < 240 ∧ moreV s (a + 1) 2 = true
 ·rw [if_pos c3]; have := more_size c3.2.2; split <;> omega
 rw [if_neg c3]
 by_cases c4 : 240 ≤ byt s a ∧ byt s a < 245 ∧ moreV s (a + 1) 3 = true
 ·rw [if_pos c4]; have := more_size c4.2.2; split <;> omega
 rw [if_neg c4]; omega
def validB (s : ByteArray) (a : Nat) : Bool :=
 if h : a < s.size then (if h0 : stepB s a = 0 then false else validB s (a + stepB s a)) else true
termination_by s.size - a
decreasing_by omega
theorem validB_step {s : ByteArray} {a : Nat} (h : a < s.size) : validB s a = if stepB s a = 0 then false else validB s (a + stepB s a) := by
 rw [validB, dif_pos h]
 by_cases h0 : stepB s a = 0
 ·rw [dif_pos h0, if_pos h0]
 ·rw [dif_neg h0, if_neg h0]
theorem validB_end {s : ByteArray} {a : Nat} (h : ¬ a < s.size) : validB s a = true := by rw [validB, dif_neg h]
structure ValidTo (s : ByteArray) (a : Nat) : Prop where
 eq : validB s 0 = validB s a
set_option maxHeartbeats 1000000 in
theorem ref_valid (s : ByteArray) (w : World) (hs : s.size ≤ 1000000) :
  Calls Tryz.prog 70 #[.string s] w fun e w' => e = .returned (.bool (validB s 0)) ∧ Below w.heap.size w w' := by
 go_enter Tryz.func70, Tryz.ntmps70
 go_wp2
 go_loopw [3] (fun i wr => ∃ a : Nat, a ≤ s.size ∧ i = .int .i64 a ∧ ValidTo s a ∧ Below w.heap.size w wr) (fun i _ => s.size - (intOf i).toNat)
 case atStart => exact ⟨0, Nat.zero_le _, rfl, ⟨rfl⟩, Below.refl _ _⟩
 case round =>
  obtain ⟨a, ha, rfl, hV, hB⟩ := hrel
  have HB := Lib.hid hB
  by_cases hlt : a < s.size
  ·have hst := ref_step s a wr hs hlt
   have HSt := Lib.hid hst
   have hle := step_le s a hlt
   have hv := validB_step hlt
   generalize stepB s a = q at *
   by_cases h0 : q = 0
   ·subst h0
    have HV := Lib.hid (show validB s 0 = false by rw [hV.eq, hv]; rfl)
    clear hst hv hV hB
    go_wp2_with fail
    refine HSt.out.mono ?_
    rintro e w1 ⟨rfl, hb⟩
    have HB1 := Lib.hid (bthen HB.out hb)
    clear hb
    go_wp2_with fail
    go_ret
    exact ⟨ret_bool HV.out.symm, HB1.out⟩
   ·have HV := Lib.hid (show ValidTo s (a + q) from ⟨by rw [hV.eq, hv, if_neg h0]⟩)
    have hq : ((q : Int) == 0) = false := by simp; omega
    clear hst hv hV hB
    go_wp2_with fail
    refine HSt.out.mono ?_
    rintro e w1 ⟨rfl, hb⟩
    have HB1 := Lib.hid (bthen HB.out hb)
    clear hb
    go_wp2_with fail
    go_roundw
    case rel => exact ⟨a + q, by omega, by go_num, HV.out, HB1.out⟩
    case measure => simp [intOf] <;> omega
  ·have HV := Lib.hid (show validB s 0 = true by rw [hV.eq, validB_end hlt])
   clear hV hB
   go_wp2
   go_ret
   exact ⟨ret_bool HV.out.symm, HB.out⟩
set_option maxHeartbeats 1000000 in
theorem ref_valued (s : ByteArray) (w : World) (hs : s.size ≤ maxLen) :
  Calls Tryz.prog 46 #[.string s] w fun e w' => e = .returned (.bool (decide (s.size ≤ 128) && validB s 0)) ∧ Below w.heap.size w w' := by
 simp only [maxLen] at hs
 by_cases h : s.size ≤ 128
 ·have hd : decide ((s.size : Int) ≤ 128) = true := decide_eq_true (by omega)
  have hv := ref_valid s w (by omega)
  have HV := Lib.hid hv
  generalize validB s 0 = b at *
  clear hv
  go_enter Tryz.func46, Tryz.ntmps46
  go_wp2_with fail
  refine HV.out.mono ?_
  rintro e w1 ⟨rfl, hb⟩
  go_wp2_with fail
  go_ret
  exact ⟨ret_bool (by simp [h]), hb⟩
 ·have hd : decide ((s.size : Int) ≤ 128) = false := decide_eq_false (by omega)
  go_enter Tryz.func46, Tryz.ntmps46
  go_wp2
  go_ret
  exact ⟨ret_bool (by simp [h]), Below.refl _ _⟩
end Go.Proofs.YtlhmdgaohonpbaaGreatDoor
