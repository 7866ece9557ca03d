import Derived.Test.YtlhmdgaohonpbaaGreatDoorGRxF
import Derived.Laws.RangeAny
set_option linter.unusedSimpArgs false
set_option linter.unusedVariables false
set_option linter.unusedSectionVars false
namespace Go.Proofs.YtlhmdgaohonpbaaGreatDoor
open Go.RowKit Go.Proofs.YtlhmdgaohonpbaaGreatDoor.MapRaw Go.ChangeMaps
def encB (b : Bool) : List Value := [.bool b]
def encR (c : Int) : List Value := [.int .i32 c]
theorem encB_map (l : List Bool) : l.flatMap encB = l.map Value.bool := by
 induction l with
 | nil => rfl
 | cons a l ih => rw [List.flatMap_cons, ih]; rfl
theorem b_len (b : Bool) : (encB b).length = 1 := rfl
def inS (c : Int) (x : Sp) : Bool := decide (x.lo ≤ c) && decide (c ≤ x.hi)
def hasF (set : List Sp) (but : Bool) (c : Int) : Bool := (set.any (inS c)) != but
def joinB (tt ll : List Bool) : List Bool := List.zipWith (fun a b => a || b) tt ll
def newB (tt ll : List Bool) : List Bool := List.zipWith (fun a b => b && !a) tt ll
def moreB (tt ll : List Bool) : Bool := (newB tt ll).any id
def mixB (tt ll : List Bool) (k : Nat) : List Bool := (joinB tt ll).take k ++ tt.drop k
theorem join_len {tt ll : List Bool} (h : ll.length = tt.length) : (joinB tt ll).length = tt.length := by unfold joinB; rw [List.length_zipWith, h]; omega
theorem new_len {tt ll : List Bool} (h : ll.length = tt.length) : (newB tt ll).length = tt.length := by unfold newB; rw [List.length_zipWith, h]; omega
theorem mix_len {tt ll : List Bool} (h : ll.length = tt.length) (k : Nat) (hk : k ≤ tt.length) : (mixB tt ll k).length = tt.length := by
 unfold mixB; rw [List.length_append, List.length_take, join_len h, List.length_drop]; omega
theorem mix_zero (tt ll : List Bool) : mixB tt ll 0 = tt := by unfold mixB; simp
theorem mix_all {tt ll : List Bool} (h : ll.length = tt.length) : mixB tt ll tt.length = joinB tt ll := by
 unfold mixB; rw [List.drop_length, List.append_nil, List.take_of_length_le (by rw [join_len h]; exact Nat.le_refl _)]
theorem mix_get {tt ll : List Bool} (h : ll.length = tt.length) {k : Nat} (hk : k < tt.length) : (mixB tt ll k)[k]? = some tt[k] := by
 unfold mixB
 rw [List.getElem?_append_right (by rw [List.length_take, join_len h]; omega), List.length_take, join_len h, Nat.min_eq_left (by omega), Nat.sub_self, List.getElem?_drop]
 simp [hk]
theorem mix_set {tt ll : List Bool} (h : ll.length = tt.length) {k : Nat} (hk : k < tt.length) : (mixB tt ll k).set k (tt[k] || ll[k]'(by omega)) = mixB tt ll (k + 1) := by
 unfold mixB
 have hj : k < (joinB tt ll).length := by rw [join_len h]; exact hk
 have hl : ((joinB tt ll).take k).length = k := by rw [List.length_take, join_len h]; omega
 rw [List.set_append_right _ _ (by omega), hl, Nat.sub_self, List.drop_eq_getElem_cons hk, List.set_cons_zero, List.take_succ_eq_append_getElem hj, List.append_assoc]
 congr 1
 simp [joinB]
theorem mix_same {tt ll : List Bool} (h : ll.length = tt.length) {k : Nat} (hk : k < tt.length) (he : (tt[k] || ll[k]'(by omega)) = tt[k]) : mixB tt ll (k + 1) = mixB tt ll k := by
 rw [← mix_set h hk, he]
 refine List.ext_getElem? fun i => ?_
 by_cases hi : i = k
 ·subst hi
  rw [List.getElem?_set_self (by rw [mix_len h _ (by omega)]; exact hk), mix_get h hk]
 ·rw [List.getElem?_set_ne (fun e => hi e.symm)]
end Go.Proofs.YtlhmdgaohonpbaaGreatDoor

namespace Go.Proofs.YtlhmdgaohonpbaaGreatDoor
open Go.RowKit Go.Proofs.YtlhmdgaohonpbaaGreatDoor.MapRaw Go.ChangeMaps
theorem rd1 {α : Type} {f : α → Value} {w : World} {A : Option Addr} {l : List α} (h : Rd 1 (fun x => [f x]) w A l) {k : Nat} (hk : k < l.length) : ∃ b off, A = some ⟨b, off, none⟩ ∧ w.cell? ⟨b, off + k, none⟩ = some (f l[k]) := by
 obtain ⟨b, off, e, h⟩ := h k l[k] (List.getElem?_eq_getElem hk)
 have := h 0 _ rfl
 simp at this
 exact ⟨b, off, e, this⟩
theorem any_take {α : Type} (f : α → Bool) (l : List α) (k : Nat) (hk : k < l.length) : (l.take (k + 1)).any f = ((l.take k).any f || f l[k]) := by
 rw [List.take_succ_eq_append_getElem hk, List.any_append]
 simp
set_option maxRecDepth 100000 in
set_option maxHeartbeats 2000000 in
theorem rex_has {D : Nat → Prop} {pb : Nat} {set : List Sp} {but plain : Bool} {sv kv : Value} {kind sign : Int} (c : Int) (w : World) (h : w.heap[pb]? = some (.cells #[.int .i64 kind, sv, .bool but, .bool plain, kv, .int .i32 sign] 210 (0, 0))) (hs : Slc 2 Sp.enc w D sv set) :
  Calls Tryz.prog 150 #[.pointer (some ⟨pb, 0, none⟩), .int .i32 c] w fun e w' => e = .returned (.bool (hasF set but c)) ∧ Below w.heap.size w w' := by
 have c1 := blk_cell h 1
 have c2 := blk_cell h 2
 simp at c1 c2
 obtain ⟨A, cp, rfl, p1, p2, -, -, p5⟩ := hs
 have HR := Lib.hid p5
 have hm9 : set.length ≤ 9223372036854775807 := by simp only [maxLen] at p2; omega
 have HHas : Hid (hasF set but c = ((set.any (inS c)) != but)) := Lib.hid rfl
 generalize hasF set but c = res at *
 obtain ⟨m, hmm⟩ : ∃ m, m = set.length := ⟨_, rfl⟩
 have Hm := Lib.hid hmm
 rw [← hmm] at c1 hm9
 clear p1 p2 p5 hmm h
 go_enter Tryz.func150, Tryz.ntmps150
 go_wp2_with fail
 go_loopw [5, 13] (fun iv i wr => ∃ k : Nat, k ≤ m ∧ i = .int .i64 k ∧ iv = .bool ((set.take k).any (inS c)) ∧ Below w.heap.size w wr) (fun _ i _ => m - (intOf i).toNat)
 case atStart => exact ⟨0, Nat.zero_le _, rfl, rfl, Below.refl _ _⟩
 case round =>
  obtain ⟨k, hk, rfl, rfl, hB⟩ := hrel
  have HBr := Lib.hid hB
  by_cases hlt : k < m
  ·have hkl : k < set.length := by rw [← Hm.out]; exact hlt
   obtain ⟨b, off, e1, hz⟩ := (Rd.below HR.out hB) k set[k] (List.getElem?_eq_getElem hkl)
   cases e1
   have z0 := hz 0 _ rfl
   have z1 := hz 1 _ rfl
   simp only [Nat.add_zero] at z0 z1
   have HNext := Lib.hid (any_take (inS c) set k hkl)
   have hin : inS c set[k] = (decide (set[k].lo ≤ c) && decide (c ≤ set[k].hi)) := rfl
   have HIn := Lib.hid hin
   generalize set[k] = x at *
   generalize (set.take k).any (inS c) = bi at *
   obtain ⟨lo, hi⟩ := x
   simp only at z0 z1 HIn
   obtain ⟨b1, hb1⟩ : ∃ b, decide (lo ≤ c) = b := ⟨_, rfl⟩
   have hb1' : decide (c ≥ lo) = b1 := hb1
   obtain ⟨b2, hb2⟩ : ∃ b, decide (c ≤ hi) = b := ⟨_, rfl⟩
   have HIn2 : Hid (inS c ⟨lo, hi⟩ = (b1 && b2)) := Lib.hid (by rw [HIn.out, hb1, hb2])
   have HBw := Lib.hid (bthen hB (balloc (Below.refl wr.heap.size wr) (.cells #[.int .i32 lo, .int .i32 hi] 221)))
   clear hB hz hin
   cases bi with
   | true =>
    have HFin : Hid (Value.bool true = .bool ((set.take (k + 1)).any (inS c))) := Lib.hid (by rw [HNext.out]; rfl)
    go_wp2_with fail
    go_roundw
    case rel => exact ⟨k + 1, by omega, by go_num, HFin.out, HBw.out⟩
    case measure => simp [intOf] <;> omega
   | false =>
    cases b1 with
    | false =>
     have HFin : Hid (Value.bool false = .bool ((set.take (k + 1)).any (inS c))) := Lib.hid (by rw [HNext.out, HIn2.out]; rfl)
     go_wp2_with fail
     go_roundw
     case rel => exact ⟨k + 1, by omega, by go_num, HFin.out, HBw.out⟩
     case measure => simp [intOf] <;> omega
    | true =>
     cases b2 with
     | false =>
      have HFin : Hid (Value.bool false = .bool ((set.take (k + 1)).any (inS c))) := Lib.hid (by rw [HNext.out, HIn2.out]; rfl)
      go_wp2_with fail
      go_roundw
      case rel => exact ⟨k + 1, by omega, by go_num, HFin.out, HBw.out⟩
      case measure => simp [intOf] <;> omega
     | true =>
      have HFin : Hid (Value.bool true = .bool ((set.take (k + 1)).any (inS c))) := Lib.hid (by rw [HNext.out, HIn2.out]; rfl)
      go_wp2_with fail
      go_roundw
      case rel => exact ⟨k + 1, by omega, by go_num, HFin.out, HBw.out⟩
      case measure => simp [intOf] <;> omega
  ·have hkm : set.take k = set := List.take_of_length_le (by rw [← Hm.out]; omega)
   rw [hkm]
   have d2 := later hB c2
   generalize set.any (inS c) = ba at *
   have HRes := Lib.hid (show res = (ba != but) from HHas.out)
   clear hB hkm
   go_wp2_with fail
   go_ret
   exact ⟨ret_bool HRes.out.symm, HBr.out⟩
theorem own_set1 {W : World} {base g n cap k : Nat} {e : TypeId} {xs : List Value} {u : Value} (h : W.ownsRow base e 1 (.slice (some ⟨g, 0, none⟩) n cap) n xs) (hk : k < n) : (W.setCell ⟨g, k, none⟩ u).ownsRow base e 1 (.slice (some ⟨g, 0, none⟩) n cap) n (xs.set k u) := by
 obtain ⟨h1, ⟨h0, -⟩ | ⟨g', cap', cur, e1, e2, e3, e4, e5, e6, e7⟩⟩ := h
 ·cases h0
 ·injection e1 with a1 a2 a3
  injection a1 with a1
  injection a1 with a1
  subst a1; subst a3
  refine ⟨by simpa using h1, .inr ⟨g, cap, _, rfl, e2, setCell_blk (i := k) u e3, e4, e5, by simpa using e6, ?_⟩⟩
  rw [← e7]
  simp [List.take_set]
end Go.Proofs.YtlhmdgaohonpbaaGreatDoor

namespace Go.Proofs.YtlhmdgaohonpbaaGreatDoor
open Go.RowKit Go.Proofs.YtlhmdgaohonpbaaGreatDoor.MapRaw Go.ChangeMaps
theorem own_free {W : World} {base g n cap k : Nat} {e : TypeId} {xs : List Value} (h : W.ownsRow base e 1 (.slice (some ⟨g, 0, none⟩) n cap) n xs) : W.frozen? ⟨g, k, none⟩ = false := by
 obtain ⟨h1, ⟨h0, -⟩ | ⟨g', cap', cur, e1, e2, e3, e4, e5, e6, e7⟩⟩ := h
 ·cases h0
 ·injection e1 with a1 a2 a3
  injection a1 with a1
  injection a1 with a1
  subst a1
  exact free_blk (i := k) e3
theorem own_b {W : World} {base g n cap k : Nat} {l : List Bool} {b : Bool} (h : W.ownsRow base 4 1 (.slice (some ⟨g, 0, none⟩) n cap) n (l.map Value.bool)) (hn : n = l.length) (hk : l[k]? = some b) : W.cell? ⟨g, k, none⟩ = some (.bool b) := by
 rw [← encB_map] at h
 obtain ⟨A, c, e, -, -, -, -, hR⟩ := own_slc (enc := encB) b_len hn h
 injection e with e1 e2 e3
 subst e1
 obtain ⟨b', off, e4, hc⟩ := hR k b hk
 injection e4 with e4
 injection e4 with e5 e6
 subst e5; subst e6
 have := hc 0 _ rfl
 simpa using this
set_option maxRecDepth 100000 in
set_option maxHeartbeats 2000000 in
theorem rex_join {D : Nat → Prop} {base : Nat} {tt ll : List Bool} {tv lv : Value} (w : World) (ho : w.ownsRow base 4 1 tv tt.length (tt.map Value.bool)) (hl : Slc 1 encB w D lv ll) (hlen : ll.length = tt.length) (hpos : 0 < tt.length) (hsep : (∀ k, D k → tv.ownBlock ≠ some k) ∨ (lv = tv ∧ ll = tt)) :
  Calls Tryz.prog 151 #[tv, lv] w fun e w' => e = .returned (.bool (moreB tt ll)) ∧ w'.ownsRow base 4 1 tv tt.length ((joinB tt ll).map Value.bool) ∧ Apart (fun k => tv.ownBlock = some k) w w' := by
 obtain ⟨g, cap, rfl⟩ : ∃ g cap, tv = .slice (some ⟨g, 0, none⟩) tt.length cap := by
  obtain ⟨-, ⟨-, h0⟩ | ⟨g, cap, _, e, -⟩⟩ := ho
  ·omega
  ·exact ⟨g, cap, e⟩
 have hread : ∀ (wr : World) (k : Nat) (hk : k < tt.length), wr.ownsRow base 4 1 (.slice (some ⟨g, 0, none⟩) tt.length cap) tt.length ((mixB tt ll k).map Value.bool) → Apart (fun j => (Value.slice (some ⟨g, 0, none⟩) tt.length cap).ownBlock = some j) w wr → ∃ b off c, lv = .slice (some ⟨b, off, none⟩) ll.length c ∧ wr.cell? ⟨b, off + k, none⟩ = some (.bool (ll[k]'(by omega))) := by
  intro wr k hk hO hA
  rcases hsep with hsep | ⟨e1, e2⟩
  ·obtain ⟨A, c, rfl, -, -, -, h4, hR⟩ := hl
   obtain ⟨b, off, rfl, hc⟩ := rd1 (f := Value.bool) hR (show k < ll.length by omega)
   have hD := (h4 _ rfl (fun e => by rw [e] at hlen; simp at hlen; omega)).2.1
   exact ⟨b, off, c, rfl, hA.cell (hsep b hD) hc⟩
  ·subst e2
   refine ⟨g, 0, cap, e1, ?_⟩
   rw [Nat.zero_add]
   exact own_b hO (mix_len rfl k (by omega)).symm (mix_get rfl hk)
 have HRead := Lib.hid hread
 obtain ⟨A1, c1, rfl⟩ : ∃ A1 c1, lv = .slice A1 tt.length c1 := by
  obtain ⟨A, c, e, -⟩ := hl
  exact ⟨A, c, by rw [e, hlen]⟩
 have HLen := Lib.hid hlen
 have HO := Lib.hid ho
 have hn9 : tt.length ≤ 9223372036854775807 := by
  obtain ⟨A, c, e, q1, q2, -⟩ := hl
  simp only [maxLen] at q2; omega
 have HJ : Hid (moreB tt ll = (newB tt ll).any id) := Lib.hid rfl
 generalize moreB tt ll = res at *
 obtain ⟨n, hnn⟩ : ∃ n, n = tt.length := ⟨_, rfl⟩
 have Hn := Lib.hid hnn
 rw [← hnn] at hn9 ⊢
 clear ho hl hpos hsep hread hnn
 go_enter Tryz.func151, Tryz.ntmps151
 go_wp2_with fail
 go_loopw [5, 10] (fun mv i wr => ∃ k : Nat, k ≤ n ∧ i = .int .i64 k ∧ mv = .bool (((newB tt ll).take k).any id) ∧ wr.ownsRow base 4 1 (.slice (some ⟨g, 0, none⟩) tt.length cap) tt.length ((mixB tt ll k).map Value.bool) ∧ Apart (fun j => (Value.slice (some ⟨g, 0, none⟩) tt.length cap).ownBlock = some j) w wr) (fun _ i _ => n - (intOf i).toNat)
 case atStart => exact ⟨0, Nat.zero_le _, rfl, rfl, by rw [mix_zero]; exact HO.out, Apart.refl _ _⟩
 case round =>
  obtain ⟨k, hk, rfl, rfl, hO, hA⟩ := hrel
  have HOk := Lib.hid hO
  have HAk := Lib.hid hA
  by_cases hlt : k < n
  ·have hkt : k < tt.length := by rw [← Hn.out]; exact hlt
   obtain ⟨b, off, c', e1, y1⟩ := HRead.out wr k hkt hO hA
   injection e1 with e2 e3 e4
   subst e2
   have y2 := own_b hO (mix_len HLen.out k (by omega)).symm (mix_get HLen.out hkt)
   have f2 : wr.frozen? ⟨g, k, none⟩ = false := own_free hO
   have hkl : k < ll.length := by rw [HLen.out]; exact hkt
   have hkn : k < (newB tt ll).length := by rw [new_len HLen.out]; exact hkt
   have hnw : (newB tt ll)[k] = (ll[k] && !tt[k]) := by simp [newB]
   have HNext : Hid (((newB tt ll).take (k + 1)).any id = (((newB tt ll).take k).any id || (ll[k] && !tt[k]))) := Lib.hid (by rw [any_take id _ k hkn, hnw]; rfl)
   have HSame : Hid ((tt[k] || ll[k]) = tt[k] → mixB tt ll (k + 1) = mixB tt ll k) := Lib.hid (fun he => mix_same HLen.out hkt he)
   have HSet : Hid ((mixB tt ll k).set k (tt[k] || ll[k]) = mixB tt ll (k + 1)) := Lib.hid (mix_set HLen.out hkt)
   have hi0 : (0 : Int) ≤ (k : Int) := by omega
   have hi1 : (k : Int) < (n : Int) := by omega
   have hi2 : (k : Int) < (tt.length : Int) := by omega
   generalize ll[k] = lb at *
   generalize tt[k] = tb at *
   generalize ((newB tt ll).take k).any id = mo at *
   rw [← Hn.out] at hi2
   clear hO hA e3 e4 hnw hkn hkl hkt
   cases lb with
   | false =>
    have HFin : Hid (Value.bool mo = .bool (((newB tt ll).take (k + 1)).any id)) := Lib.hid (by rw [HNext.out]; simp)
    have HO2 : Hid (wr.ownsRow base 4 1 (.slice (some ⟨g, 0, none⟩) tt.length cap) tt.length ((mixB tt ll (k + 1)).map Value.bool)) := Lib.hid (by rw [HSame.out (by simp)]; exact HOk.out)
    go_wp2_with fail
    go_roundw
    case rel => exact ⟨k + 1, by omega, by go_num, HFin.out, HO2.out, HAk.out⟩
    case measure => simp [intOf] <;> omega
   | true =>
    cases tb with
    | true =>
     have HFin : Hid (Value.bool mo = .bool (((newB tt ll).take (k + 1)).any id)) := Lib.hid (by rw [HNext.out]; simp)
     have HO2 : Hid (wr.ownsRow base 4 1 (.slice (some ⟨g, 0, none⟩) tt.length cap) tt.length ((mixB tt ll (k + 1)).map Value.bool)) := Lib.hid (by rw [HSame.out (by simp)]; exact HOk.out)
     go_wp2_with fail
     go_roundw
     case rel => exact ⟨k + 1, by omega, by go_num, HFin.out, HO2.out, HAk.out⟩
     case measure => simp [intOf] <;> omega
    | false =>
     have HFin : Hid (Value.bool true = .bool (((newB tt ll).take (k + 1)).any id)) := Lib.hid (by rw [HNext.out]; simp)
     have hO2 := own_set1 (k := k) (u := .bool true) HOk.out (by rw [← Hn.out]; exact hlt)
     rw [← List.map_set, show (mixB tt ll k).set k true = mixB tt ll (k + 1) from HSet.out] at hO2
     have HO2 := Lib.hid hO2
     have HA2 := Lib.hid (HAk.out.setC ⟨g, k, none⟩ (.inl rfl) (.bool true))
     clear hO2
     go_wp2_with fail
     go_roundw
     case rel => exact ⟨k + 1, by omega, by go_num, HFin.out, HO2.out, HA2.out⟩
     case measure => simp [intOf] <;> omega
  ·have hkn : k = n := by omega
   subst hkn
   have hO2 := hO
   rw [Hn.out, mix_all HLen.out] at hO2
   have HO2 := Lib.hid hO2
   have HRes : Hid (res = ((newB tt ll).take k).any id) := Lib.hid (by rw [HJ.out, List.take_of_length_le (by rw [new_len HLen.out, ← Hn.out]; exact Nat.le_refl _)])
   generalize ((newB tt ll).take k).any id = mo at *
   clear hO hA hO2
   go_wp2_with fail
   go_ret
   exact ⟨ret_bool HRes.out.symm, by rw [Hn.out]; exact HO2.out, by rw [Hn.out]; exact HAk.out⟩
end Go.Proofs.YtlhmdgaohonpbaaGreatDoor

namespace Go.Proofs.YtlhmdgaohonpbaaGreatDoor
open Go.RowKit Go.Proofs.YtlhmdgaohonpbaaGreatDoor.MapRaw Go.ChangeMaps
theorem run_next_at {P : Program} (W : World) (ib : Nat) (s : ByteArray) (pos : Nat) (ty : TypeId) (h : W.heap[ib]? = some (.stringIter s pos)) (hp : pos < s.size) :
  (Instr.next (.pointer (some ⟨ib, 0, none⟩)) true ty).run P W = .ok (.tuple #[.bool true, .int .i64 pos, .int .i32 (Utf8.decode s pos).1]) (setBlock W ib (.stringIter s (pos + (Utf8.decode s pos).2))) := by
 simp only [Instr.next, getObj, setObj, Sem.run_bind, Sem.run, h, Result.andThen, hp, if_true]
 simp [goInt, setBlock]
theorem run_next_stop {P : Program} (W : World) (ib : Nat) (s : ByteArray) (pos : Nat) (ty : TypeId) (h : W.heap[ib]? = some (.stringIter s pos)) (hp : ¬ pos < s.size) :
  (Instr.next (.pointer (some ⟨ib, 0, none⟩)) true ty).run P W = .ok (.tuple #[.bool false]) W := by
 simp [Instr.next, getObj, Sem.run, h, hp]
theorem iterPos_at {W : World} {k p : Nat} {s : ByteArray} (h : W.heap[k]? = some (.stringIter s p)) : W.iterPos k = p := by simp [World.iterPos, h]
theorem width1 (s : ByteArray) (pos : Nat) (h : pos < s.size) : 1 ≤ (Utf8.decode s pos).2 := by
 by_cases ha : (s[pos]'h).toNat < 128
 ·rw [decode_ascii s pos h ha]
  exact Nat.le_refl _
 ·exact (Go.decode_high s pos h (by omega)).2
def runesFrom (s : ByteArray) : Nat → Nat → List Int
 | 0, _ => []
 | n + 1, pos => if pos < s.size then ((Utf8.decode s pos).1 : Int) :: runesFrom s n (pos + (Utf8.decode s pos).2) else []
def runesF (s : ByteArray) : List Int := runesFrom s s.size 0
theorem info_i32 : (Tryz.prog.info? 21).map (fun i => (i.zero, i.size, i.bytes)) = some (some (.int .i32 0), 1, 4) := by kernel_rfl
theorem info_bool : (Tryz.prog.info? 4).map (fun i => (i.zero, i.size, i.bytes)) = some (some (.bool false), 1, 1) := by kernel_rfl
theorem r_len (c : Int) : (encR c).length = 1 := rfl
structure RunesTo (w : World) (s : ByteArray) (pos : Nat) (v : Value) (acc : List Int) (W : World) : Prop where
 it : W.heap[w.heap.size]? = some (.stringIter s pos)
 own : W.ownsRow (w.heap.size + 1) 21 1 v acc.length (acc.flatMap encR)
 below : Below w.heap.size w W
theorem RunesTo.size {w W : World} {s : ByteArray} {pos : Nat} {v : Value} {acc : List Int} (h : RunesTo w s pos v acc W) : w.heap.size + 1 ≤ W.heap.size := (Array.getElem?_eq_some_iff.1 h.it).1
theorem set_other (W : World) (k : Nat) (o : Obj) (j : Nat) (h : j ≠ k) : (setBlock W k o).heap[j]? = W.heap[j]? := by
 simp only [setBlock]
 rw [Array.getElem?_setIfInBounds_ne (fun e => h e.symm)]
theorem set_size (W : World) (k : Nat) (o : Obj) : (setBlock W k o).heap.size = W.heap.size := by simp [setBlock]
theorem RunesTo.step {w W : World} {s : ByteArray} {pos p2 : Nat} {v : Value} {acc : List Int} (h : RunesTo w s pos v acc W) : RunesTo w s p2 v acc (setBlock W w.heap.size (.stringIter s p2)) := by
 have hsz := h.size
 refine ⟨setBlock_at (by omega) _, ownsRow_move h.own fun k hk => set_other _ _ _ _ (by have := (ownsRow_blk h.own k hk).1; omega), ⟨h.below.os, h.below.tape, h.below.output, by rw [set_size]; exact h.below.size, fun k hk => (set_other _ _ _ _ (by omega)).trans (h.below.block k hk)⟩⟩
theorem RunesTo.push {w W w1 : World} {s : ByteArray} {pos : Nat} {v v1 : Value} {acc : List Int} {c : Int} (h : RunesTo w s pos v acc W) (ho : w1.ownsRow (w.heap.size + 1) 21 1 v1 (acc.length + 1) (acc.flatMap encR ++ encR c)) (hb : Below (w.heap.size + 1) W w1) : RunesTo w s pos v1 (acc ++ [c]) w1 := by
 refine ⟨(hb.block _ (by omega)).trans h.it, ?_, ⟨hb.os.trans h.below.os, hb.tape.trans h.below.tape, hb.output.trans h.below.output, Nat.le_trans h.below.size hb.size, fun k hk => (hb.block k (by omega)).trans (h.below.block k hk)⟩⟩
 rw [List.length_append, List.flatMap_append]
 simpa using ho
def RunesPost (w : World) (l : List Int) (e : Ending) (w' : World) : Prop := ∃ v, e = .returned v ∧ Slc 1 encR w' (fun k => w.heap.size ≤ k) v l ∧ Below w.heap.size w w'
set_option maxRecDepth 100000 in
set_option maxHeartbeats 2000000 in
theorem rex_runes (s : ByteArray) (w : World) (hs : s.size ≤ 1000000) : Calls Tryz.prog 138 #[.string s] w (RunesPost w (runesF s)) := by
 have HRn : Hid (runesFrom s s.size 0 = runesF s) := Lib.hid rfl
 generalize runesF s = tot at *
 go_enter Tryz.func138, Tryz.ntmps138
 go_wp2_with fail
 have h0 : RunesTo w s 0 (.slice none 0 0) [] (w.iter s 0) := ⟨World.iter_heap w s 0, ⟨rfl, .inl ⟨rfl, rfl⟩⟩, Below.alloc (Below.refl _ _) (Nat.le_refl _) _⟩
 have H0 := Lib.hid h0
 clear h0
 go_loopw [3] (fun ov wr => ∃ (pos n : Nat) (acc : List Int), RunesTo w s pos ov acc wr ∧ acc ++ runesFrom s n pos = tot ∧ s.size ≤ pos + n ∧ acc.length ≤ pos ∧ acc.length ≤ s.size) (fun _ wr => s.size - wr.iterPos w.heap.size)
 case atStart => exact ⟨0, s.size, [], H0.out, HRn.out, by omega, by simp, by simp⟩
 case round =>
  obtain ⟨pos, n, acc, hR, htot, hn, hacc, hacc2⟩ := hrel
  have HR := Lib.hid hR
  obtain ⟨Av, cv, e3⟩ := own_slice hR.own
  subst e3
  by_cases hp : pos < s.size
  ·have hnx : ∀ ty, (Instr.next (.pointer (some ⟨w.heap.size, 0, none⟩)) true ty).run Tryz.prog wr = _ := fun ty => run_next_at wr w.heap.size s pos ty hR.it hp
   have hwd := width1 s pos hp
   have htot2 : acc ++ ((Utf8.decode s pos).1 : Int) :: runesFrom s (n - 1) (pos + (Utf8.decode s pos).2) = tot := by
    cases n with
    | zero => omega
    | succ n => have h9 := htot; rw [runesFrom, if_pos hp] at h9; exact h9
   have HRs := Lib.hid (hR.step (p2 := pos + (Utf8.decode s pos).2))
   generalize (Utf8.decode s pos).1 = dc at *
   generalize (Utf8.decode s pos).2 = dn at *
   have hsm : acc.length < s.size ∧ acc.length + 1 ≤ pos + dn := by omega
   have HT := Lib.hid htot2
   have HNn : Hid (s.size ≤ pos + dn + (n - 1) ∧ pos < pos + dn ∧ pos < s.size) := Lib.hid (by omega)
   have HSm := Lib.hid hsm
   have HIt := Lib.hid hR.it
   have hlen : (acc.length + 1) * 4 ≤ 140737488355328 := by omega
   generalize setBlock wr w.heap.size (.stringIter s (pos + dn)) = w2 at *
   have HBa : Hid (RunesTo w s (pos + dn) (.slice Av acc.length cv) acc (w2.alloc (.cells #[.int .i32 dc] 21))) := Lib.hid ⟨blk_below HRs.out.it (balloc (Below.refl _ _) _), own_below HRs.out.own (balloc (Below.refl _ _) _), bthen HRs.out.below (balloc (Below.refl _ _) _)⟩
   have hsz := HBa.out.size
   clear hR htot hn hacc hacc2 htot2 hsm hwd hp
   go_wp2_with (at_builtin; refine wpList_app2 (w0 := w2.alloc (.cells #[.int .i32 dc] 21)) (w.heap.size + 1) rfl _ _ 173 21 _ 1 4 1 (encR dc) rfl Tryz.underlying173 info_i32 rfl (by decide) (by decide) (.slice Av acc.length cv) (.slice (some ⟨w2.heap.size, 0, none⟩) 1 1) acc.length (acc.flatMap encR) ?hs ?hxe ?hx HBa.out.own (Below.refl _ _) hsz hlen ?_)
   try case hs => rfl
   try case hxe => rfl
   case hx => exact src_block (m := 1) (size := 1) (cs := #[.int .i32 dc]) (blk_new _ _) rfl (fun u hu => by simp at hu; subst hu; rfl) 1
   intro v5 w5 hO5 hB5 hg5 hat5
   have HR5 := Lib.hid (HBa.out.push hO5 hB5)
   clear hO5 hB5 hg5 hat5 hsz
   go_wp2_with fail
   go_roundw
   case rel => exact ⟨pos + dn, n - 1, acc ++ [(dc : Int)], HR5.out, by rw [← HT.out]; simp, HNn.out.1, by rw [List.length_append]; exact HSm.out.2, by rw [List.length_append]; exact HSm.out.1⟩
   case measure => rw [iterPos_at HR5.out.it, iterPos_at HIt.out]; have := HNn.out; omega
  ·have hnx : ∀ ty, (Instr.next (.pointer (some ⟨w.heap.size, 0, none⟩)) true ty).run Tryz.prog wr = _ := fun ty => run_next_stop wr w.heap.size s pos ty hR.it hp
   have hacc3 : acc = tot := by
    rw [← htot]
    cases n with
    | zero => simp [runesFrom]
    | succ n => rw [runesFrom, if_neg hp]; simp
   subst hacc3
   clear hR htot hn hacc hacc2 HRn
   go_wp2_with fail
   go_ret
   exact ⟨_, rfl, own_slc (enc := encR) r_len rfl (own_shift HR.out.own (Nat.le_succ _)), HR.out.below⟩
end Go.Proofs.YtlhmdgaohonpbaaGreatDoor

namespace Go.Proofs.YtlhmdgaohonpbaaGreatDoor
open Go.RowKit Go.Proofs.YtlhmdgaohonpbaaGreatDoor.MapRaw Go.ChangeMaps
def loopF (f : List Bool → List Bool) : Nat → List Bool → List Bool
 | 0, out => out
 | n + 1, out => if moreB out (f out) = true then loopF f n (joinB out (f out)) else joinB out (f out)
def onceF (f : List Bool → List Bool) (sign : Int) (fr : List Bool) : List Bool := if sign ≠ 43 then joinB (f fr) fr else f fr
def oftenF (f : List Bool → List Bool) (sign : Int) (fr : List Bool) : List Bool := if sign = 63 then onceF f sign fr else loopF f (fr.length + 1) (onceF f sign fr)
def oneF (set : List Sp) (but : Bool) (l : List Int) (fr : List Bool) : List Bool := false :: List.zipWith (fun f c => f && hasF set but c) fr l
def endsF : Nat → Part → List Int → List Bool → List Bool
 | 0, _, _, fr => fr
 | h + 1, .mk kind set but _ parts sign, l, fr =>
  if kind = 0 then oneF set but l fr
  else if kind = 1 then parts.foldl (fun fr x => endsF h x l fr) fr
  else if kind = 2 then parts.foldl (fun out x => joinB out (endsF h x l fr)) (fr.map fun _ => false)
  else match parts with
   | [] => fr
   | x :: _ => oftenF (endsF h x l) sign fr
theorem one_len {set : List Sp} {but : Bool} {l : List Int} {fr : List Bool} (h : fr.length = l.length + 1) : (oneF set but l fr).length = fr.length := by
 unfold oneF; rw [List.length_cons, List.length_zipWith, h]; omega
theorem loop_len {f : List Bool → List Bool} {m : Nat} (hf : ∀ o, o.length = m → (f o).length = m) : ∀ (n : Nat) (o : List Bool), o.length = m → (loopF f n o).length = m
 | 0, _, h => h
 | n + 1, o, h => by
  have hj : (joinB o (f o)).length = m := by rw [join_len (by rw [hf o h, h]), h]
  unfold loopF
  split
  ·exact loop_len hf n _ hj
  ·exact hj
theorem once_len {f : List Bool → List Bool} {m : Nat} (hf : ∀ o, o.length = m → (f o).length = m) {sign : Int} {fr : List Bool} (h : fr.length = m) : (onceF f sign fr).length = m := by
 unfold onceF
 split
 ·rw [join_len (by rw [hf fr h, h]), hf fr h]
 ·exact hf fr h
theorem often_len {f : List Bool → List Bool} {m : Nat} (hf : ∀ o, o.length = m → (f o).length = m) {sign : Int} {fr : List Bool} (h : fr.length = m) : (oftenF f sign fr).length = m := by
 unfold oftenF
 split
 ·exact once_len hf h
 ·exact loop_len hf _ _ (once_len hf h)
theorem foldl_len {α : Type} {g : List Bool → α → List Bool} {m : Nat} (hg : ∀ o x, o.length = m → (g o x).length = m) : ∀ (xs : List α) (o : List Bool), o.length = m → (xs.foldl g o).length = m
 | [], _, h => h
 | x :: xs, o, h => by rw [List.foldl_cons]; exact foldl_len hg xs _ (hg o x h)
theorem ends_len : ∀ (h : Nat) (p : Part) (l : List Int) (fr : List Bool), fr.length = l.length + 1 → (endsF h p l fr).length = l.length + 1
 | 0, _, _, _, h => h
 | h + 1, .mk kind set but plain parts sign, l, fr, hl => by
  have ih := fun (x : Part) (o : List Bool) (ho : o.length = l.length + 1) => ends_len h x l o ho
  unfold endsF
  split
  ·rw [one_len hl, hl]
  ·split
   ·exact foldl_len (fun o x ho => ih x o ho) _ _ hl
   ·split
    ·refine foldl_len (m := l.length + 1) (fun o x ho => ?_) _ _ (by rw [List.length_map, hl])
     rw [join_len (by rw [ih x fr hl, ho]), ho]
    ·split
     ·exact hl
     ·exact often_len (fun o ho => ih _ o ho) hl
def falses (l : List Bool) : Nat := (l.filter fun b => !b).length
theorem join_cons (a b : Bool) (tt ll : List Bool) : joinB (a :: tt) (b :: ll) = (a || b) :: joinB tt ll := rfl
theorem more_cons (a b : Bool) (tt ll : List Bool) : moreB (a :: tt) (b :: ll) = ((b && !a) || moreB tt ll) := rfl
theorem join_same : ∀ (tt ll : List Bool), ll.length = tt.length → moreB tt ll = false → joinB tt ll = tt
 | [], _, _, _ => by simp [joinB]
 | a :: tt, [], h, _ => by simp at h
 | a :: tt, b :: ll, h, hm => by
  rw [more_cons] at hm
  simp only [Bool.or_eq_false_iff] at hm
  rw [join_cons, join_same tt ll (by simpa using h) hm.2]
  congr 1
  cases a <;> cases b <;> simp_all
theorem join_le : ∀ (tt ll : List Bool), falses (joinB tt ll) ≤ falses tt
 | [], _ => by simp [joinB, falses]
 | a :: tt, [] => by simp [joinB, falses]
 | a :: tt, b :: ll => by
  have := join_le tt ll
  rw [join_cons]
  unfold falses at *
  cases a <;> cases b <;> simp [List.filter_cons] <;> omega
theorem join_fewer : ∀ (tt ll : List Bool), moreB tt ll = true → falses (joinB tt ll) < falses tt
 | [], _, hm => by simp [moreB, newB] at hm
 | a :: tt, [], hm => by simp [moreB, newB] at hm
 | a :: tt, b :: ll, hm => by
  rw [more_cons] at hm
  have hle := join_le tt ll
  have ih := join_fewer tt ll
  rw [join_cons]
  unfold falses at *
  cases a <;> cases b <;> simp [List.filter_cons] at * <;> first | omega | (have := ih hm; omega)
theorem falses_le (l : List Bool) : falses l ≤ l.length := List.length_filter_le _ _
set_option maxRecDepth 100000 in
set_option maxHeartbeats 1000000 in
theorem bool_clone {D : Nat → Prop} (v : Value) (l : List Bool) (w : World) (hv : Slc 1 encB w D v l) (hpos : 0 < l.length) (hl : l.length ≤ 2000000) :
  Calls Tryz.prog 161 #[v] w fun e w' => ∃ g cap, e = .returned (.slice (some ⟨g, 0, none⟩) l.length cap) ∧ w'.ownsRow w.heap.size 4 1 (.slice (some ⟨g, 0, none⟩) l.length cap) l.length (l.map Value.bool) ∧ Below w.heap.size w w' := by
 have hsrc := hv.src b_len (fun x u hu => by simp [encB] at hu; subst hu; rfl) (by decide)
 obtain ⟨A, c, rfl, h1, h2, h3, h4, h5⟩ := hv
 obtain ⟨b, off, rfl, -⟩ := rd1 (f := Value.bool) h5 hpos
 have Hs := Lib.hid hsrc
 obtain ⟨n, hn⟩ : ∃ n, n = l.length := ⟨_, rfl⟩
 have Hn := Lib.hid hn
 rw [← hn] at hl hpos Hs ⊢
 have Hpos := Lib.hid hpos
 have ks := fun (W : World) => Lib.run_eql_slice_nil (P := Tryz.prog) W 175 4 (some ⟨b, off, none⟩) n c 0 0 Tryz.underlying175
 clear h1 h2 h3 h4 h5 hn hsrc
 go_enter Tryz.func161, Tryz.ntmps161
 go_wp2_with ((refine wpList_app (o := ⟨some 7, _, _, _, _, _⟩) (w0 := w) w.heap.size rfl _ _ 175 4 _ 1 1 n (l.flatMap encB) rfl Tryz.underlying175 info_bool rfl (by decide) (by decide) (.slice (some ⟨w.heap.size, 0, none⟩) 0 0) 0 [] rfl (Hs.out.below (balloc (Below.refl _ _) _)) (World.ownsRow_lit w #[] 0 (Nat.le_refl _) (by decide) rfl) (balloc (Below.refl _ _) _) (by simp) (by omega) ?_; intro v1 w5 hO hB5 hg5 hat5; simp only [Nat.zero_add, List.nil_append] at hO))
 rw [encB_map] at hO
 obtain ⟨g, cap, rfl⟩ : ∃ g cap, v1 = .slice (some ⟨g, 0, none⟩) n cap := by
  obtain ⟨-, ⟨-, h0⟩ | ⟨g, cap, _, e, -⟩⟩ := hO
  ·have := Hpos.out; omega
  ·exact ⟨g, cap, e⟩
 go_wp2_with fail
 go_ret
 exact ⟨g, cap, rfl, hO, hB5⟩
end Go.Proofs.YtlhmdgaohonpbaaGreatDoor

namespace Go.Proofs.YtlhmdgaohonpbaaGreatDoor
open Go.RowKit Go.Proofs.YtlhmdgaohonpbaaGreatDoor.MapRaw Go.ChangeMaps
def EndsPost (w : World) (fv : Value) (fr res : List Bool) (e : Ending) (w' : World) : Prop := ∃ v, e = .returned v ∧ Below w.heap.size w w' ∧ ((v = fv ∧ res = fr) ∨ w'.ownsRow w.heap.size 4 1 v res.length (res.map Value.bool))
def EndsC (h : Nat) : Prop := ∀ (w : World) (D D1 D2 : Nat → Prop) (b : Nat) (p : Part) (lv fv : Value) (l : List Int) (fr : List Bool), PartAt w D h b p → Slc 1 encR w D1 lv l → Slc 1 encB w D2 fv fr → fr.length = l.length + 1 → l.length ≤ 1000000 → Calls Tryz.prog 139 #[.pointer (some ⟨b, 0, none⟩), lv, fv] w (EndsPost w fv fr (endsF h p l fr))
theorem own_b_slc {W : World} {base : Nat} {v : Value} {l : List Bool} (h : W.ownsRow base 4 1 v l.length (l.map Value.bool)) : Slc 1 encB W (fun k => base ≤ k) v l := by
 rw [← encB_map] at h
 exact own_slc (enc := encB) b_len rfl h
def isFv : Value → Bool
 | .bool false => true
 | _ => false
def RowM (g N : Nat) (w : World) : Nat := match w.heap[g]? with
 | some (.cells cs _ _) => ((cs.toList.take N).filter isFv).length
 | _ => 0
theorem RowM_at {W : World} {base g N cap : Nat} {e : TypeId} {o : List Bool} (h : W.ownsRow base e 1 (.slice (some ⟨g, 0, none⟩) N cap) N (o.map Value.bool)) : RowM g N W = falses o := by
 obtain ⟨h1, ⟨h0, -⟩ | ⟨g', cap', cur, e1, e2, e3, e4, e5, e6, e7⟩⟩ := h
 ·cases h0
 ·injection e1 with a1 a2 a3
  injection a1 with a1
  injection a1 with a1
  subst a1
  unfold RowM
  rw [e3]
  rw [Nat.mul_one] at e7
  simp only [e7]
  unfold falses
  rw [List.filter_map, List.length_map]
  congr 1
  refine List.filter_congr fun b _ => ?_
  cases b <;> rfl
set_option maxRecDepth 100000 in
set_option maxHeartbeats 4000000 in
theorem rex_often {h : Nat} (hE : EndsC h) {w : World} {D D1 D2 : Nat → Prop} {b : Nat} {kind sign : Int} {set : List Sp} {but plain : Bool} {x : Part} {rest : List Part} {lv fv : Value} {l : List Int} {fr : List Bool} (hp : PartAt w D (h + 1) b (.mk kind set but plain (x :: rest) sign)) (hl : Slc 1 encR w D1 lv l) (hf : Slc 1 encB w D2 fv fr) (hlen : fr.length = l.length + 1) (hl6 : l.length ≤ 1000000) :
  Calls Tryz.prog 152 #[.pointer (some ⟨b, 0, none⟩), lv, fv] w fun e w' => ∃ v, e = .returned v ∧ Below w.heap.size w w' ∧ w'.ownsRow w.heap.size 4 1 v (oftenF (endsF h x l) sign fr).length ((oftenF (endsF h x l) sign fr).map Value.bool) := by
 obtain ⟨-, -, sv, kv, ks, hblk, -, hk, hkl, hkids⟩ := hp
 obtain ⟨k0, ks', rfl⟩ : ∃ k0 ks', ks = k0 :: ks' := by
  cases ks with
  | nil => simp at hkl
  | cons a t => exact ⟨a, t, rfl⟩
 have hpx : PartAt w D h k0 x := hkids 0 k0 rfl x rfl
 have c4 := blk_cell hblk 4
 have c5 := blk_cell hblk 5
 simp at c4 c5
 obtain ⟨A, ck, rfl, -, -, -, -, hR⟩ := hk
 obtain ⟨kb, ko, rfl, ck0⟩ := rd1 (f := fun k => Value.pointer (some ⟨k, 0, none⟩)) hR (show 0 < (k0 :: ks').length by simp)
 simp at ck0
 have hlenF := fun (o : List Bool) (ho : o.length = fr.length) => (ends_len h x l o (by rw [ho, hlen])).trans hlen.symm
 have HLenF := Lib.hid hlenF
 have HEnds := Lib.hid fun (W : World) (hW : Below w.heap.size w W) (D3 : Nat → Prop) (fv' : Value) (fr' : List Bool) (hf' : Slc 1 encB W D3 fv' fr') (hl' : fr'.length = fr.length) => hE W D D1 D3 k0 x lv fv' l fr' (PartAt.move hW.size (fun j hj _ => hW.block j hj) (fun _ _ hd => hd) _ _ _ hpx) (hl.below hW) hf' (by rw [hl', hlen]) hl6
 generalize hfn : endsF h x l = f at *
 have HOf : Hid (oftenF f sign fr = if sign = 63 then onceF f sign fr else loopF f (fr.length + 1) (onceF f sign fr)) := Lib.hid rfl
 generalize oftenF f sign fr = res at *
 have hn6 : fr.length ≤ 1000001 := by omega
 have Hn6 := Lib.hid hn6
 have Hpos : Hid (0 < fr.length) := Lib.hid (by omega)
 have HF := Lib.hid (Slc.mono (D' := fun k => k < w.heap.size) hf (fun k hk _ => hk))
 have hks : (0 : Int) < ((k0 :: ks').length : Int) := by simp
 obtain ⟨A3, c3, rfl, -⟩ := hl
 generalize (k0 :: ks').length = nk at *
 generalize l.length = nl at *
 clear hkids hpx hf hlen hl6 hlenF hR hkl hfn hblk hn6
 go_enter Tryz.func152, Tryz.ntmps152
 go_wp2_with fail
 refine (HEnds.out w (Below.refl _ _) _ fv fr HF.out rfl).mono ?_
 rintro e w1 ⟨v1, rfl, hb1, hv1⟩
 have hs1 : Slc 1 encB w1 (fun _ => True) v1 (f fr) := by
  rcases hv1 with ⟨e1, e2⟩ | hv1
  ·rw [e1, e2]; exact (HF.out.below hb1).mono (fun _ _ _ => trivial)
  ·exact (own_b_slc hv1).mono (fun _ _ _ => trivial)
 have HS1 := Lib.hid hs1
 have HB1 := Lib.hid hb1
 clear hs1 hb1 hv1
 go_wp2_with fail
 have hf1 : (f fr).length = fr.length := HLenF.out fr rfl
 refine (bool_clone v1 (f fr) w1 HS1.out (by rw [hf1]; exact Hpos.out) (by have := Hn6.out; omega)).mono ?_
 rintro e w2 ⟨g, cap, rfl, hO2, hb2⟩
 rw [hf1] at hO2 ⊢
 have HO2 := Lib.hid hO2
 have HG : Hid (w1.heap.size ≤ g) := Lib.hid (ownsRow_blk hO2 g rfl).1
 have HB2 := Lib.hid (bthen HB1.out hb2)
 have d5 := later HB2.out c5
 have HC5 := Lib.hid c5
 have Hf1 := Lib.hid hf1
 clear hO2 hb2 c5 c4 ck0 hks hf1
 go_upto_if 26 with fail
 go_cut [] (fun wx => wx.ownsRow w1.heap.size 4 1 (.slice (some ⟨g, 0, none⟩) fr.length cap) fr.length ((onceF f sign fr).map Value.bool) ∧ Below w.heap.size w wx)
 case first =>
  by_cases s43 : sign = 43
  ·have e43 : (sign != 43) = false := by simpa using s43
   have HFin : Hid (w2.ownsRow w1.heap.size 4 1 (.slice (some ⟨g, 0, none⟩) fr.length cap) fr.length ((onceF f sign fr).map Value.bool) ∧ Below w.heap.size w w2) := Lib.hid (by
    have : onceF f sign fr = f fr := by unfold onceF; rw [if_neg (by simp [s43])]
    rw [this]; exact ⟨HO2.out, HB2.out⟩)
   clear s43
   go_wp2_with fail
   go_meet
   exact HFin.out
  ·have e43 : (sign != 43) = true := by simpa using s43
   have hon : onceF f sign fr = joinB (f fr) fr := by unfold onceF; rw [if_pos s43]
   have hj := rex_join (tv := .slice (some ⟨g, 0, none⟩) fr.length cap) (lv := fv) (tt := f fr) (ll := fr) (base := w1.heap.size) w2 (by rw [Hf1.out]; exact HO2.out) (HF.out.below HB2.out) Hf1.out.symm (by rw [Hf1.out]; exact Hpos.out) (.inl fun k hk e => by
    injection e with e
    have h1 := HG.out
    have h2 := HB1.out.size
    have h3 : g = k := e
    omega)
   have HJ := Lib.hid hj
   have HOn := Lib.hid hon
   clear s43 hj hon
   go_wp2_with fail
   refine HJ.out.mono ?_
   rintro e w3 ⟨rfl, hO3, hA3⟩
   have HFin : Hid (w3.ownsRow w1.heap.size 4 1 (.slice (some ⟨g, 0, none⟩) fr.length cap) fr.length ((onceF f sign fr).map Value.bool) ∧ Below w.heap.size w w3) := Lib.hid (by
    rw [HOn.out]
    rw [Hf1.out] at hO3
    refine ⟨hO3, ((below_apart HB2.out (fun k => w.heap.size ≤ k)).trans hA3 (fun i _ hi => ?_)).below (Nat.le_refl _) (fun k hk => by omega)⟩
    have h4 : g = i := by injection hi
    have h1 := HG.out
    have h2 := HB1.out.size
    omega)
   clear hO3 hA3
   go_wp2_with fail
   go_meet
   exact HFin.out
 case rest =>
  have HO3 := Lib.hid hcut.1
  have HB3 := Lib.hid hcut.2
  generalize wc = w3 at *
  have c5 := later HB3.out HC5.out
  have hol : (onceF f sign fr).length = fr.length := once_len (fun o ho => HLenF.out o ho) rfl
  have HOl := Lib.hid hol
  generalize onceF f sign fr = o0 at *
  clear hcut d5 hol
  by_cases s63 : sign = 63
  ·have e63 : (sign == 63) = true := by simpa using s63
   have hr : res = o0 := by rw [HOf.out, if_pos s63]
   have HFin : Hid (w3.ownsRow w.heap.size 4 1 (.slice (some ⟨g, 0, none⟩) fr.length cap) res.length (res.map Value.bool)) := Lib.hid (by rw [hr, HOl.out]; exact own_shift HO3.out HB1.out.size)
   clear s63 hr
   go_wp2_with fail
   go_ret
   exact ⟨_, rfl, HB3.out, HFin.out⟩
  ·have e63 : (sign == 63) = false := by simpa using s63
   have hr : loopF f (fr.length + 1) o0 = res := by rw [HOf.out, if_neg s63]
   have HR := Lib.hid hr
   clear s63 hr
   go_wp2_with fail
   go_loopw [] (fun wr => ∃ (n : Nat) (o : List Bool), wr.ownsRow w1.heap.size 4 1 (.slice (some ⟨g, 0, none⟩) fr.length cap) fr.length (o.map Value.bool) ∧ o.length = fr.length ∧ loopF f n o = res ∧ falses o < n ∧ Below w.heap.size w wr) (fun wr => RowM g fr.length wr)
   case atStart => exact ⟨fr.length + 1, o0, HO3.out, HOl.out, HR.out, by have := falses_le o0; rw [HOl.out] at this; omega, HB3.out⟩
   case round =>
    obtain ⟨n, o, hO, hol, hlp, hfa, hB⟩ := hrel
    cases n with
    | zero => omega
    | succ n =>
     have hfl : (f o).length = fr.length := HLenF.out o hol
     have hO' : wr.ownsRow w1.heap.size 4 1 (.slice (some ⟨g, 0, none⟩) fr.length cap) o.length (o.map Value.bool) := by rw [hol]; exact hO
     have hcall := HEnds.out wr hB _ (.slice (some ⟨g, 0, none⟩) fr.length cap) o (own_b_slc hO') hol
     have HCall := Lib.hid hcall
     have HOr := Lib.hid hO
     have HBr := Lib.hid hB
     have HLp := Lib.hid hlp
     have HFa := Lib.hid hfa
     have HOo := Lib.hid hol
     have HFl := Lib.hid hfl
     clear hO hol hlp hfa hB hfl hO' hcall
     go_wp2_with fail
     refine HCall.out.mono ?_
     rintro e w5 ⟨v5, rfl, hb5, hv5⟩
     have hO5 : w5.ownsRow w1.heap.size 4 1 (.slice (some ⟨g, 0, none⟩) fr.length cap) o.length (o.map Value.bool) := by rw [HOo.out]; exact own_below HOr.out hb5
     have hgl : g < wr.heap.size := (ownsRow_blk HOr.out g rfl).2
     have hj : Calls Tryz.prog 151 #[.slice (some ⟨g, 0, none⟩) fr.length cap, v5] w5 fun e w' => e = .returned (.bool (moreB o (f o))) ∧ w'.ownsRow w1.heap.size 4 1 (.slice (some ⟨g, 0, none⟩) fr.length cap) o.length ((joinB o (f o)).map Value.bool) ∧ Apart (fun k => (Value.slice (some ⟨g, 0, none⟩) fr.length cap).ownBlock = some k) w5 w' := by
      rcases hv5 with ⟨e1, e2⟩ | hv5
      ·rw [e1, e2]
       refine rex_join w5 hO5 (own_b_slc hO5) rfl (by rw [HOo.out]; exact Hpos.out) (.inr ⟨rfl, rfl⟩)
      ·exact rex_join w5 hO5 (own_b_slc hv5) (HFl.out.trans HOo.out.symm) (by rw [HOo.out]; exact Hpos.out) (.inl fun k hk e => by
        have h4 : g = k := by injection e
        omega)
     have HJ := Lib.hid hj
     have HB5 := Lib.hid (bthen HBr.out hb5)
     clear hj hO5 hb5 hv5 hgl
     go_wp2_with fail
     refine HJ.out.mono ?_
     rintro e w6 ⟨rfl, hO6, hA6⟩
     rw [HOo.out] at hO6
     have HO6 := Lib.hid hO6
     have HB6 : Hid (Below w.heap.size w w6) := Lib.hid (((below_apart HB5.out (fun k => w.heap.size ≤ k)).trans hA6 (fun i _ hi => by
      have h4 : g = i := by injection hi
      have h1 := HG.out
      have h2 := HB1.out.size
      omega)).below (Nat.le_refl _) (fun k hk => by omega))
     have HJl : Hid ((joinB o (f o)).length = fr.length) := Lib.hid ((join_len (HFl.out.trans HOo.out.symm)).trans HOo.out)
     clear hO6 hA6
     cases hm : moreB o (f o) with
     | true =>
      have hlp2 : loopF f n (joinB o (f o)) = res := by rw [← HLp.out]; conv => rhs; rw [loopF, if_pos hm]
      have hfw := join_fewer o (f o) hm
      have HLp2 := Lib.hid hlp2
      have HFw := Lib.hid hfw
      clear hm hlp2 hfw
      go_wp2_with fail
      go_roundw
      case rel => exact ⟨n, _, HO6.out, HJl.out, HLp2.out, by have := HFw.out; have := HFa.out; omega, HB6.out⟩
      case measure => rw [RowM_at HO6.out, RowM_at HOr.out]; exact HFw.out
     | false =>
      have hres : res = joinB o (f o) := by rw [← HLp.out, loopF, if_neg (by rw [hm]; decide)]
      have HFin : Hid (w6.ownsRow w.heap.size 4 1 (.slice (some ⟨g, 0, none⟩) fr.length cap) res.length (res.map Value.bool)) := Lib.hid (by rw [hres, HJl.out]; exact own_shift HO6.out HB1.out.size)
      clear hm hres
      go_wp2_with fail
      go_ret
      exact ⟨_, rfl, HB6.out, HFin.out⟩
end Go.Proofs.YtlhmdgaohonpbaaGreatDoor

namespace Go.Proofs.YtlhmdgaohonpbaaGreatDoor
open Go.RowKit Go.Proofs.YtlhmdgaohonpbaaGreatDoor.MapRaw Go.ChangeMaps
theorem made_bool (n : Nat) : (madeCells (Value.bool false).cells (n * 1)).toList = (List.replicate n false).map Value.bool := by
 rw [Nat.mul_one, show (Value.bool false).cells = #[Value.bool false] from rfl, toList_madeCells_one, List.map_replicate]
def onePart (z : List Bool) (m k : Nat) : List Bool := false :: (z.take k ++ List.replicate (m - k) false)
theorem one_zero (z : List Bool) (m : Nat) : onePart z m 0 = List.replicate (m + 1) false := by unfold onePart; simp [List.replicate_succ]
theorem one_all {z : List Bool} {m : Nat} (h : z.length = m) : onePart z m m = false :: z := by unfold onePart; rw [List.take_of_length_le (by omega)]; simp
theorem onep_len {z : List Bool} {m : Nat} (h : z.length = m) {k : Nat} (hk : k ≤ m) : (onePart z m k).length = m + 1 := by unfold onePart; simp [h]; omega
theorem one_get {z : List Bool} {m : Nat} (h : z.length = m) {k : Nat} (hk : k < m) : (onePart z m k)[k + 1]? = some false := by
 unfold onePart
 rw [List.getElem?_cons_succ, List.getElem?_append_right (by rw [List.length_take]; omega), List.length_take, Nat.min_eq_left (by omega), Nat.sub_self, List.getElem?_replicate]
 rw [if_pos (by omega)]
theorem one_set {z : List Bool} {m : Nat} (h : z.length = m) {k : Nat} (hk : k < m) : (onePart z m k).set (k + 1) (z[k]'(by omega)) = onePart z m (k + 1) := by
 unfold onePart
 have hl : (z.take k).length = k := by rw [List.length_take]; omega
 rw [List.set_cons_succ, List.set_append_right _ _ (by omega), hl, Nat.sub_self, List.take_succ_eq_append_getElem (by omega), List.append_assoc]
 congr 2
 rw [show m - k = (m - (k + 1)) + 1 by omega, List.replicate_succ, List.set_cons_zero]
 rfl
theorem below_cell {B : Nat} {w W : World} (h : Below B w W) {g : Nat} (hg : B ≤ g) (k : Nat) (u : Value) : Below B w (W.setCell ⟨g, k, none⟩ u) :=
 ⟨h.os, h.tape, h.output, by simpa [World.setCell] using h.size, fun j hj => (Below.heap_setCell _ _ _ _ (show j ≠ g by omega)).trans (h.block j hj)⟩
set_option maxRecDepth 100000 in
set_option maxHeartbeats 4000000 in
theorem rex_ends_one {h : Nat} {w : World} {D D1 D2 : Nat → Prop} {b : Nat} {sign : Int} {set : List Sp} {but plain : Bool} {parts : List Part} {lv fv : Value} {l : List Int} {fr : List Bool} (hp : PartAt w D (h + 1) b (.mk 0 set but plain parts sign)) (hl : Slc 1 encR w D1 lv l) (hf : Slc 1 encB w D2 fv fr) (hlen : fr.length = l.length + 1) (hl6 : l.length ≤ 1000000) :
  Calls Tryz.prog 139 #[.pointer (some ⟨b, 0, none⟩), lv, fv] w (EndsPost w fv fr (oneF set but l fr)) := by
 obtain ⟨-, -, sv, kv, ks, hblk, hsv, -⟩ := hp
 have c0 := blk_cell hblk 0
 simp at c0
 have HHas := Lib.hid fun (c : Int) (W : World) (hW : Below w.heap.size w W) => rex_has c W (blk_below hblk hW) (hsv.below hW)
 obtain ⟨i0, hi, hz0, hz1, hz2⟩ := info_parts info_bool
 obtain ⟨A3, c3, rfl, -, -, -, -, hRl⟩ := hl
 obtain ⟨A4, c4, rfl, -, -, -, -, hRf⟩ := hf
 have HRd1 := Lib.hid fun (W : World) (hW : Below w.heap.size w W) => Rd.below hRl hW
 have HRd2 := Lib.hid fun (W : World) (hW : Below w.heap.size w W) => Rd.below hRf hW
 obtain ⟨z, hz⟩ : ∃ z, z = List.zipWith (fun f c => f && hasF set but c) fr l := ⟨_, rfl⟩
 have hzl : z.length = l.length := by rw [hz, List.length_zipWith, hlen]; omega
 have HZ : Hid (∀ (k : Nat) (h1 : k < fr.length) (h2 : k < l.length) (h3 : k < z.length), z[k] = (fr[k] && hasF set but l[k])) := Lib.hid (fun k h1 h2 h3 => by subst hz; simp)
 have HOne : Hid (oneF set but l fr = false :: z) := Lib.hid (by rw [hz]; rfl)
 generalize oneF set but l fr = res at *
 obtain ⟨m, hm⟩ : ∃ m, m = l.length := ⟨_, rfl⟩
 have Hm := Lib.hid hm
 rw [← hm] at hlen hl6 hzl
 have HLen := Lib.hid hlen
 have HZl := Lib.hid hzl
 have H6 := Lib.hid hl6
 have hfl : fr.length = m + 1 := hlen
 rw [hfl, ← hm]
 clear hblk hsv hRl hRf hz hzl hm hlen hl6 hfl
 go_enter Tryz.func139, Tryz.ntmps139
 have hmk : ((m + 1 : Nat) : Int) = (m : Int) + 1 := by omega
 go_wp2_with (at_make; refine wpList_make_full _ rfl _ _ 175 rfl w.heap.size 4 i0 _ 1 Tryz.underlying175 hi hz0 hz1 .i64 .i64 _ _ (m + 1) rfl rfl rfl rfl (by rw [hz2]; have := H6.out; omega) (by have := H6.out; simp only [maxLen]; omega) (Nat.le_refl _) ?_; intro w1 hO hg; rw [made_bool, ← one_zero z] at hO; have HO := Lib.hid hO; have HB1 := Lib.hid (grown_below hg); clear hO hg)
 clear c0
 go_loopw [26] (fun i wr => ∃ k : Nat, k ≤ m ∧ i = .int .i64 k ∧ wr.ownsRow w.heap.size 4 1 (.slice (some ⟨w.heap.size, 0, none⟩) (m + 1) (m + 1)) (m + 1) ((onePart z m k).map Value.bool) ∧ Below w.heap.size w wr) (fun i _ => m - (intOf i).toNat)
 case atStart => exact ⟨0, Nat.zero_le _, rfl, HO.out, HB1.out⟩
 case round =>
  obtain ⟨k, hk, rfl, hO, hB⟩ := hrel
  have HOr := Lib.hid hO
  have HBr := Lib.hid hB
  by_cases hlt : k < m
  ·have hkl : k < l.length := by rw [← Hm.out]; exact hlt
   have hkf : k < fr.length := by rw [HLen.out]; omega
   have hkz : k < z.length := by rw [HZl.out]; exact hlt
   obtain ⟨lb, lo, el, y1⟩ := rd1 (f := Value.int .i32) (HRd1.out wr hB) hkl
   subst el
   obtain ⟨fb, fo, ef, y2⟩ := rd1 (f := Value.bool) (HRd2.out wr hB) hkf
   subst ef
   have y3 := own_b hO (onep_len HZl.out (by omega)).symm (one_get HZl.out hlt)
   have f3 : wr.frozen? ⟨w.heap.size, k + 1, none⟩ = false := own_free hO
   have hzk := HZ.out k hkf hkl hkz
   have hset := one_set HZl.out hlt
   have hsum : IntKind.i64.wrap ((k : Int) + 1) = (k : Int) + 1 := IntWalk.i64_in _ (by have := H6.out; omega)
   have hi0 : (0 : Int) ≤ (k : Int) := by omega
   have hi1 : (k : Int) < (m : Int) := by omega
   have hi2 : (k : Int) < ((m + 1 : Nat) : Int) := by omega
   have hi3 : (k : Int) + 1 < ((m + 1 : Nat) : Int) := by omega
   have hi4 : (0 : Int) ≤ (k : Int) + 1 := by omega
   have HHk := Lib.hid (HHas.out l[k])
   generalize l[k] = c at *
   generalize fr[k] = fb1 at *
   generalize z[k] = zk at *
   have HSet := Lib.hid hset
   have HZk := Lib.hid hzk
   clear hO hB hkl hkf hkz hset hzk
   cases fb1 with
   | false =>
    have hz0' : zk = false := by rw [HZk.out]; rfl
    have hO2 := own_set1 (k := k + 1) (u := .bool false) HOr.out (by omega)
    rw [← List.map_set, ← hz0', HSet.out] at hO2
    have HO2 : Hid ((wr.setCell ⟨w.heap.size, k + 1, none⟩ (.bool false)).ownsRow w.heap.size 4 1 (.slice (some ⟨w.heap.size, 0, none⟩) (m + 1) (m + 1)) (m + 1) ((onePart z m (k + 1)).map Value.bool)) := Lib.hid (by rw [hz0'] at hO2; exact hO2)
    have HB2 : Hid (Below w.heap.size w (wr.setCell ⟨w.heap.size, k + 1, none⟩ (.bool false))) := Lib.hid (below_cell HBr.out (Nat.le_refl _) _ _)
    clear hO2 hz0'
    go_wp2_with fail
    go_roundw
    case rel => exact ⟨k + 1, by omega, by go_num, HO2.out, HB2.out⟩
    case measure => simp [intOf] <;> omega
   | true =>
    have hz0' : zk = hasF set but c := by rw [HZk.out]; simp
    have HHc := Lib.hid (HHk.out wr HBr.out)
    generalize hasF set but c = hb at *
    subst hz0'
    go_wp2_with fail
    refine HHc.out.mono ?_
    rintro e w5 ⟨rfl, hb5⟩
    have HO5 := Lib.hid (own_below HOr.out hb5)
    have HB5 := Lib.hid (bthen HBr.out hb5)
    have q3 := later hb5 y3
    have q4 : w5.frozen? ⟨w.heap.size, k + 1, none⟩ = false := own_free HO5.out
    have hO2 := own_set1 (k := k + 1) (u := .bool zk) HO5.out (by omega)
    rw [← List.map_set, HSet.out] at hO2
    have HO2 := Lib.hid hO2
    have HB2 : Hid (Below w.heap.size w (w5.setCell ⟨w.heap.size, k + 1, none⟩ (.bool zk))) := Lib.hid (below_cell HB5.out (Nat.le_refl _) _ _)
    clear hO2 hb5 y3 f3
    go_wp2_with fail
    go_roundw
    case rel => exact ⟨k + 1, by omega, by go_num, HO2.out, HB2.out⟩
    case measure => simp [intOf] <;> omega
  ·have hkm : k = m := by omega
   subst hkm
   rw [one_all HZl.out] at hO
   have HFin : Hid (wr.ownsRow w.heap.size 4 1 (.slice (some ⟨w.heap.size, 0, none⟩) (k + 1) (k + 1)) res.length (res.map Value.bool)) := Lib.hid (by rw [HOne.out, List.length_cons, HZl.out]; exact hO)
   clear hO hB
   go_wp2_with fail
   go_ret
   exact ⟨_, rfl, HBr.out, .inr HFin.out⟩
end Go.Proofs.YtlhmdgaohonpbaaGreatDoor

namespace Go.Proofs.YtlhmdgaohonpbaaGreatDoor
open Go.RowKit Go.Proofs.YtlhmdgaohonpbaaGreatDoor.MapRaw Go.ChangeMaps
theorem foldl_take {α β : Type} (g : β → α → β) (z : β) (xs : List α) (k : Nat) (hk : k < xs.length) : (xs.take (k + 1)).foldl g z = g ((xs.take k).foldl g z) xs[k] := by
 rw [List.take_succ_eq_append_getElem hk, List.foldl_append]; rfl
set_option maxRecDepth 100000 in
set_option maxHeartbeats 4000000 in
theorem rex_ends_many {h : Nat} (hE : EndsC h) {w : World} {D D1 D2 : Nat → Prop} {b : Nat} {sign : Int} {set : List Sp} {but plain : Bool} {parts : List Part} {lv fv : Value} {l : List Int} {fr : List Bool} (hp : PartAt w D (h + 1) b (.mk 1 set but plain parts sign)) (hl : Slc 1 encR w D1 lv l) (hf : Slc 1 encB w D2 fv fr) (hlen : fr.length = l.length + 1) (hl6 : l.length ≤ 1000000) :
  Calls Tryz.prog 139 #[.pointer (some ⟨b, 0, none⟩), lv, fv] w (EndsPost w fv fr (parts.foldl (fun fr x => endsF h x l fr) fr)) := by
 obtain ⟨-, -, sv, kv, ks, hblk, -, hk, hkl, hkids⟩ := hp
 have c0 := blk_cell hblk 0
 have c4 := blk_cell hblk 4
 simp at c0 c4
 have HEnds := Lib.hid fun (W : World) (hW : Below w.heap.size w W) (i k : Nat) (hi : ks[i]? = some k) (x : Part) (hx : parts[i]? = some x) (D3 : Nat → Prop) (fv' : Value) (fr' : List Bool) (hf' : Slc 1 encB W D3 fv' fr') (hl' : fr'.length = fr.length) => hE W D D1 D3 k x lv fv' l fr' (PartAt.move hW.size (fun j hj _ => hW.block j hj) (fun _ _ hd => hd) _ _ _ (hkids i k hi x hx)) (hl.below hW) hf' (by rw [hl', hlen]) hl6
 have HEl := Lib.hid fun (x : Part) (o : List Bool) (ho : o.length = fr.length) => (ends_len h x l o (by rw [ho, hlen])).trans hlen.symm
 have HF := Lib.hid (Slc.mono (D' := fun k => k < w.heap.size) hf (fun k hk _ => hk))
 have Hpos : Hid (0 < fr.length ∧ fr.length ≤ 1000001) := Lib.hid (by omega)
 obtain ⟨A, ck, rfl, q1, q2, -, -, hR⟩ := hk
 have HRk := Lib.hid fun (W : World) (hW : Below w.heap.size w W) => Rd.below hR hW
 have hm9 : ks.length ≤ 9223372036854775807 := by simp only [maxLen] at q2; omega
 obtain ⟨m, hm⟩ : ∃ m, m = ks.length := ⟨_, rfl⟩
 have Hm := Lib.hid hm
 have Hkl := Lib.hid hkl
 rw [← hm] at c4 hm9
 obtain ⟨A3, c3, rfl, -⟩ := hl
 have HFold := Lib.hid fun (k : Nat) (hk : k < parts.length) => foldl_take (fun fr x => endsF h x l fr) fr parts k hk
 have HAll : Hid ((parts.take parts.length).foldl (fun fr x => endsF h x l fr) fr = parts.foldl (fun fr x => endsF h x l fr) fr) := Lib.hid (by rw [List.take_length])
 generalize parts.foldl (fun fr x => endsF h x l fr) fr = res at *
 generalize l.length = nl at *
 clear hblk hkids hf hlen hl6 hR hkl q1 q2 hm
 go_enter Tryz.func139, Tryz.ntmps139
 go_wp2_with fail
 go_loopw [2, 53] (fun ov i wr => ∃ k : Nat, k ≤ m ∧ i = .int .i64 k ∧ ((parts.take k).foldl (fun fr x => endsF h x l fr) fr).length = fr.length ∧ Below w.heap.size w wr ∧ ((ov = fv ∧ (parts.take k).foldl (fun fr x => endsF h x l fr) fr = fr) ∨ wr.ownsRow w.heap.size 4 1 ov ((parts.take k).foldl (fun fr x => endsF h x l fr) fr).length (((parts.take k).foldl (fun fr x => endsF h x l fr) fr).map Value.bool))) (fun _ i _ => m - (intOf i).toNat)
 case atStart => exact ⟨0, Nat.zero_le _, rfl, rfl, Below.refl _ _, .inl ⟨rfl, rfl⟩⟩
 case round =>
  obtain ⟨k, hk, rfl, hol, hB, hO⟩ := hrel
  have HBr := Lib.hid hB
  have HOr := Lib.hid hO
  have HOl := Lib.hid hol
  by_cases hlt : k < m
  ·have hkk : k < ks.length := by rw [← Hm.out]; exact hlt
   have hkp : k < parts.length := by rw [← Hkl.out]; exact hkk
   obtain ⟨kb, ko, e1, y1⟩ := rd1 (f := fun k => Value.pointer (some ⟨k, 0, none⟩)) (HRk.out wr hB) hkk
   subst e1
   have hso : ∃ D3, Slc 1 encB wr D3 u2 ((parts.take k).foldl (fun fr x => endsF h x l fr) fr) := by
    rcases hO with ⟨e1, e2⟩ | hO
    ·rw [e1, e2]; exact ⟨_, HF.out.below hB⟩
    ·exact ⟨_, own_b_slc hO⟩
   obtain ⟨D3, hso⟩ := hso
   have hcall := HEnds.out wr hB k ks[k] (List.getElem?_eq_getElem hkk) parts[k] (List.getElem?_eq_getElem hkp) D3 u2 _ hso hol
   have hnext := HFold.out k hkp
   have hnl := HEl.out parts[k] _ hol
   rw [← hnext] at hcall hnl
   have HCall := Lib.hid hcall
   have HNl := Lib.hid hnl
   have hi0 : (0 : Int) ≤ (k : Int) := by omega
   have hi1 : (k : Int) < (m : Int) := by omega
   generalize ks[k] = k0 at *
   clear hso hcall hnext hnl hO hB hol
   go_wp2_with fail
   refine HCall.out.mono ?_
   rintro e w5 ⟨v5, rfl, hb5, hv5⟩
   have HB5 := Lib.hid (bthen HBr.out hb5)
   have HO5 : Hid ((v5 = fv ∧ (parts.take (k + 1)).foldl (fun fr x => endsF h x l fr) fr = fr) ∨ w5.ownsRow w.heap.size 4 1 v5 ((parts.take (k + 1)).foldl (fun fr x => endsF h x l fr) fr).length (((parts.take (k + 1)).foldl (fun fr x => endsF h x l fr) fr).map Value.bool)) := Lib.hid (by
    rcases hv5 with ⟨e1, e2⟩ | hv5
    ·rw [e1, e2]
     rcases HOr.out with hx | hx
     ·exact .inl hx
     ·exact .inr (own_below hx hb5)
    ·exact .inr (own_shift hv5 HBr.out.size))
   clear hb5 hv5
   go_wp2_with fail
   go_roundw
   case rel => exact ⟨k + 1, by omega, by go_num, HNl.out, HB5.out, HO5.out⟩
   case measure => simp [intOf] <;> omega
  ·have hkm : k = parts.length := by rw [← Hkl.out, ← Hm.out]; omega
   have HFin : Hid ((u2 = fv ∧ res = fr) ∨ wr.ownsRow w.heap.size 4 1 u2 res.length (res.map Value.bool)) := Lib.hid (by rw [hkm, HAll.out] at hO; exact hO)
   clear hO hB hol
   go_wp2_with fail
   go_ret
   exact ⟨_, rfl, HBr.out, HFin.out⟩
set_option maxRecDepth 100000 in
set_option maxHeartbeats 4000000 in
theorem rex_ends_alike {h : Nat} (hE : EndsC h) {w : World} {D D1 D2 : Nat → Prop} {b : Nat} {sign : Int} {set : List Sp} {but plain : Bool} {parts : List Part} {lv fv : Value} {l : List Int} {fr : List Bool} (hp : PartAt w D (h + 1) b (.mk 2 set but plain parts sign)) (hl : Slc 1 encR w D1 lv l) (hf : Slc 1 encB w D2 fv fr) (hlen : fr.length = l.length + 1) (hl6 : l.length ≤ 1000000) :
  Calls Tryz.prog 139 #[.pointer (some ⟨b, 0, none⟩), lv, fv] w (EndsPost w fv fr (parts.foldl (fun out x => joinB out (endsF h x l fr)) (fr.map fun _ => false))) := by
 obtain ⟨-, -, sv, kv, ks, hblk, -, hk, hkl, hkids⟩ := hp
 have c0 := blk_cell hblk 0
 have c4 := blk_cell hblk 4
 simp at c0 c4
 have HEnds := Lib.hid fun (W : World) (hW : Below w.heap.size w W) (i k : Nat) (hi : ks[i]? = some k) (x : Part) (hx : parts[i]? = some x) (D3 : Nat → Prop) (fv' : Value) (fr' : List Bool) (hf' : Slc 1 encB W D3 fv' fr') (hl' : fr'.length = fr.length) => hE W D D1 D3 k x lv fv' l fr' (PartAt.move hW.size (fun j hj _ => hW.block j hj) (fun _ _ hd => hd) _ _ _ (hkids i k hi x hx)) (hl.below hW) hf' (by rw [hl', hlen]) hl6
 have HEl := Lib.hid fun (x : Part) (o : List Bool) (ho : o.length = fr.length) => (ends_len h x l o (by rw [ho, hlen])).trans hlen.symm
 have HF := Lib.hid (Slc.mono (D' := fun k => k < w.heap.size) hf (fun k hk _ => hk))
 have Hpos : Hid (0 < fr.length ∧ fr.length ≤ 1000001) := Lib.hid (by omega)
 obtain ⟨A, ck, rfl, q1, q2, -, -, hR⟩ := hk
 have HRk := Lib.hid fun (W : World) (hW : Below w.heap.size w W) => Rd.below hR hW
 have hm9 : ks.length ≤ 9223372036854775807 := by simp only [maxLen] at q2; omega
 obtain ⟨m, hm⟩ : ∃ m, m = ks.length := ⟨_, rfl⟩
 have Hm := Lib.hid hm
 have Hkl := Lib.hid hkl
 rw [← hm] at c4 hm9
 obtain ⟨A3, c3, rfl, -⟩ := hl
 have HFold := Lib.hid fun (k : Nat) (hk : k < parts.length) => foldl_take (fun out x => joinB out (endsF h x l fr)) (fr.map fun _ => false) parts k hk
 have HAll : Hid ((parts.take parts.length).foldl (fun out x => joinB out (endsF h x l fr)) (fr.map fun _ => false) = parts.foldl (fun out x => joinB out (endsF h x l fr)) (fr.map fun _ => false)) := Lib.hid (by rw [List.take_length])
 have HZero : Hid ((fr.map fun _ => false) = List.replicate fr.length false) := Lib.hid (by rw [List.map_const'])
 generalize parts.foldl (fun out x => joinB out (endsF h x l fr)) (fr.map fun _ => false) = res at *
 obtain ⟨i0, hi, hz0, hz1, hz2⟩ := info_parts info_bool
 obtain ⟨A4, c4', rfl, -⟩ := hf
 generalize l.length = nl at *
 clear hblk hkids hlen hl6 hR hkl q1 q2 hm
 go_enter Tryz.func139, Tryz.ntmps139
 go_wp2_with (at_make; refine wpList_make_full _ rfl _ _ 175 rfl w.heap.size 4 i0 _ 1 Tryz.underlying175 hi hz0 hz1 .i64 .i64 _ _ fr.length rfl rfl rfl rfl (by rw [hz2]; have := Hpos.out; omega) (by have := Hpos.out; simp only [maxLen]; omega) (Nat.le_refl _) ?_; intro w1 hO hg; rw [made_bool, ← HZero.out] at hO; have HO := Lib.hid hO; have HB1 := Lib.hid (grown_below hg); have c4w := later (grown_below hg) c4; clear hO hg)
 go_loopw [73] (fun i wr => ∃ k : Nat, k ≤ m ∧ i = .int .i64 k ∧ ((parts.take k).foldl (fun out x => joinB out (endsF h x l fr)) (fr.map fun _ => false)).length = fr.length ∧ Below w.heap.size w wr ∧ wr.ownsRow w.heap.size 4 1 (.slice (some ⟨w.heap.size, 0, none⟩) fr.length fr.length) fr.length (((parts.take k).foldl (fun out x => joinB out (endsF h x l fr)) (fr.map fun _ => false)).map Value.bool)) (fun i _ => m - (intOf i).toNat)
 case atStart => exact ⟨0, Nat.zero_le _, rfl, by simp, HB1.out, HO.out⟩
 case round =>
  obtain ⟨k, hk, rfl, hol, hB, hO⟩ := hrel
  have HBr := Lib.hid hB
  have HOr := Lib.hid hO
  have HOl := Lib.hid hol
  by_cases hlt : k < m
  ·have hkk : k < ks.length := by rw [← Hm.out]; exact hlt
   have hkp : k < parts.length := by rw [← Hkl.out]; exact hkk
   obtain ⟨kb, ko, e1, y1⟩ := rd1 (f := fun k => Value.pointer (some ⟨k, 0, none⟩)) (HRk.out wr hB) hkk
   subst e1
   have hcall := HEnds.out wr hB k ks[k] (List.getElem?_eq_getElem hkk) parts[k] (List.getElem?_eq_getElem hkp) _ (.slice A4 fr.length c4') fr (HF.out.below hB) rfl
   have hel := HEl.out parts[k] fr rfl
   have hnext := HFold.out k hkp
   have HCall := Lib.hid hcall
   have HEl1 := Lib.hid hel
   have HNext := Lib.hid hnext
   have hi0 : (0 : Int) ≤ (k : Int) := by omega
   have hi1 : (k : Int) < (m : Int) := by omega
   generalize ks[k] = k0 at *
   generalize endsF h parts[k] l fr = er at *
   generalize (parts.take k).foldl (fun out x => joinB out (endsF h x l fr)) (fr.map fun _ => false) = o at *
   clear hcall hnext hel hO hB hol
   go_wp2_with fail
   refine HCall.out.mono ?_
   rintro e w5 ⟨v5, rfl, hb5, hv5⟩
   have hO5 : w5.ownsRow w.heap.size 4 1 (.slice (some ⟨w.heap.size, 0, none⟩) fr.length fr.length) o.length (o.map Value.bool) := by rw [HOl.out]; exact own_below HOr.out hb5
   have hgl : w.heap.size < wr.heap.size := (ownsRow_blk HOr.out w.heap.size rfl).2
   have hj : Calls Tryz.prog 151 #[.slice (some ⟨w.heap.size, 0, none⟩) fr.length fr.length, v5] w5 fun e w' => e = .returned (.bool (moreB o er)) ∧ w'.ownsRow w.heap.size 4 1 (.slice (some ⟨w.heap.size, 0, none⟩) fr.length fr.length) o.length ((joinB o er).map Value.bool) ∧ Apart (fun k => (Value.slice (some ⟨w.heap.size, 0, none⟩) fr.length fr.length).ownBlock = some k) w5 w' := by
    have hpo : 0 < o.length := by rw [HOl.out]; exact Hpos.out.1
    have hle : er.length = o.length := HEl1.out.trans HOl.out.symm
    rcases hv5 with ⟨e1, e2⟩ | hv5
    ·rw [e1]
     refine rex_join w5 hO5 (by rw [e2]; exact HF.out.below (bthen HBr.out hb5)) hle hpo (.inl fun k hk e => by
      have h4 : w.heap.size = k := by injection e
      omega)
    ·exact rex_join w5 hO5 (own_b_slc hv5) hle hpo (.inl fun k hk e => by
      have h4 : w.heap.size = k := by injection e
      omega)
   have HJ := Lib.hid hj
   have HB5 := Lib.hid (bthen HBr.out hb5)
   clear hj hO5 hb5 hv5 hgl
   go_wp2_with fail
   refine HJ.out.mono ?_
   rintro e w6 ⟨rfl, hO6, hA6⟩
   rw [HOl.out, ← HNext.out] at hO6
   have HO6 := Lib.hid hO6
   have HB6 : Hid (Below w.heap.size w w6) := Lib.hid (((below_apart HB5.out (fun k => w.heap.size ≤ k)).trans hA6 (fun i _ hi => by
    have h4 : w.heap.size = i := by injection hi
    omega)).below (Nat.le_refl _) (fun k hk => by omega))
   have HJl : Hid (((parts.take (k + 1)).foldl (fun out x => joinB out (endsF h x l fr)) (fr.map fun _ => false)).length = fr.length) := Lib.hid (by rw [HNext.out, join_len (HEl1.out.trans HOl.out.symm), HOl.out])
   clear hO6 hA6
   go_wp2_with fail
   go_roundw
   case rel => exact ⟨k + 1, by omega, by go_num, HJl.out, HB6.out, HO6.out⟩
   case measure => simp [intOf] <;> omega
  ·have hkm : k = parts.length := by rw [← Hkl.out, ← Hm.out]; omega
   have HFin : Hid (wr.ownsRow w.heap.size 4 1 (.slice (some ⟨w.heap.size, 0, none⟩) fr.length fr.length) res.length (res.map Value.bool)) := Lib.hid (by
    rw [hkm, HAll.out] at hO hol
    rw [hol]; exact hO)
   clear hO hB hol
   go_wp2_with fail
   go_ret
   exact ⟨_, rfl, HBr.out, .inr HFin.out⟩
end Go.Proofs.YtlhmdgaohonpbaaGreatDoor

namespace Go.Proofs.YtlhmdgaohonpbaaGreatDoor
open Go.RowKit Go.Proofs.YtlhmdgaohonpbaaGreatDoor.MapRaw Go.ChangeMaps
set_option maxRecDepth 100000 in
set_option maxHeartbeats 2000000 in
theorem rex_ends_again {h : Nat} (hE : EndsC h) {w : World} {D D1 D2 : Nat → Prop} {b : Nat} {kind sign : Int} {set : List Sp} {but plain : Bool} {x : Part} {rest : List Part} {lv fv : Value} {l : List Int} {fr : List Bool} (hp : PartAt w D (h + 1) b (.mk kind set but plain (x :: rest) sign)) (hl : Slc 1 encR w D1 lv l) (hf : Slc 1 encB w D2 fv fr) (hlen : fr.length = l.length + 1) (hl6 : l.length ≤ 1000000) (h0 : kind ≠ 0) (h1 : kind ≠ 1) (h2 : kind ≠ 2) :
  Calls Tryz.prog 139 #[.pointer (some ⟨b, 0, none⟩), lv, fv] w (EndsPost w fv fr (oftenF (endsF h x l) sign fr)) := by
 have hoft := rex_often hE hp hl hf hlen hl6
 have HOft := Lib.hid hoft
 obtain ⟨-, -, sv, kv, ks, hblk, -⟩ := hp
 have c0 := blk_cell hblk 0
 simp at c0
 generalize oftenF (endsF h x l) sign fr = res at *
 obtain ⟨A3, c3, rfl, -⟩ := hl
 have e0 : (kind == 0) = false := by simpa using h0
 have e1 : (kind == 1) = false := by simpa using h1
 have e2 : (kind == 2) = false := by simpa using h2
 generalize l.length = nl at *
 clear hoft hblk hf hlen hl6 h0 h1 h2
 go_enter Tryz.func139, Tryz.ntmps139
 go_wp2_with fail
 refine HOft.out.mono ?_
 rintro e w1 ⟨v, rfl, hb, hO⟩
 have HB := Lib.hid hb
 have HO := Lib.hid hO
 clear hb hO
 go_wp2_with fail
 go_ret
 exact ⟨_, rfl, HB.out, .inr HO.out⟩
theorem rex_ends : ∀ h : Nat, EndsC h
 | 0 => fun w D D1 D2 b p lv fv l fr hp _ _ _ _ => hp.elim
 | h + 1 => fun w D D1 D2 b p lv fv l fr hp hl hf hlen hl6 => by
  obtain ⟨kind, set, but, plain, parts, sign⟩ := p
  by_cases h0 : kind = 0
  ·subst h0
   have := rex_ends_one hp hl hf hlen hl6
   rw [show endsF (h + 1) (.mk 0 set but plain parts sign) l fr = oneF set but l fr from by unfold endsF; rw [if_pos rfl]]
   exact this
  ·by_cases h1 : kind = 1
   ·subst h1
    have := rex_ends_many (rex_ends h) hp hl hf hlen hl6
    rw [show endsF (h + 1) (.mk 1 set but plain parts sign) l fr = parts.foldl (fun fr x => endsF h x l fr) fr from by conv => lhs; unfold endsF; rw [if_neg (by decide), if_pos rfl]]
    exact this
   ·by_cases h2 : kind = 2
    ·subst h2
     have := rex_ends_alike (rex_ends h) hp hl hf hlen hl6
     rw [show endsF (h + 1) (.mk 2 set but plain parts sign) l fr = parts.foldl (fun out x => joinB out (endsF h x l fr)) (fr.map fun _ => false) from by conv => lhs; unfold endsF; rw [if_neg (by decide), if_neg (by decide), if_pos rfl]]
     exact this
    ·cases parts with
     | nil =>
      obtain ⟨-, hk, -⟩ := hp
      rcases hk with e | e | e | e
      ·exact (h0 e).elim
      ·exact (h1 e).elim
      ·exact (h2 e).elim
      ·exact (e rfl).elim
     | cons x rest =>
      have := rex_ends_again (rex_ends h) hp hl hf hlen hl6 h0 h1 h2
      rw [show endsF (h + 1) (.mk kind set but plain (x :: rest) sign) l fr = oftenF (endsF h x l) sign fr from by conv => lhs; unfold endsF; rw [if_neg h0, if_neg h1, if_neg h2]]
      exact this
theorem runes_len (s : ByteArray) : ∀ (n pos : Nat), (runesFrom s n pos).length ≤ n
 | 0, _ => Nat.le_refl _
 | n + 1, pos => by
  rw [runesFrom]
  split
  ·rw [List.length_cons]; have := runes_len s n (pos + (Utf8.decode s pos).2); omega
  ·simp
def matchF (p : Part) (s : ByteArray) : Bool := ((endsF 64 p (runesF s) (true :: List.replicate (runesF s).length false))[(runesF s).length]?).getD false
set_option maxRecDepth 100000 in
set_option maxHeartbeats 2000000 in
theorem rex_match {w : World} {D : Nat → Prop} {xb tb : Nat} {t : ByteArray} {sz : Int} {p : Part} (s : ByteArray) (hx : w.heap[xb]? = some (.cells #[.string t, .pointer (some ⟨tb, 0, none⟩), .int .i64 sz] 199 (0, 0))) (hp : PartAt w D 64 tb p) (hs : s.size ≤ 1000000) :
  Calls Tryz.prog 113 #[.pointer (some ⟨xb, 0, none⟩), .string s] w fun e w' => e = .returned (.bool (matchF p s)) ∧ Below w.heap.size w w' := by
 have c1 := blk_cell hx 1
 simp at c1
 have HRun := Lib.hid fun (W : World) => rex_runes s W hs
 have hrl : (runesF s).length ≤ 1000000 := Nat.le_trans (runes_len s s.size 0) hs
 have HM : Hid (matchF p s = ((endsF 64 p (runesF s) (true :: List.replicate (runesF s).length false))[(runesF s).length]?).getD false) := Lib.hid rfl
 have HEl := Lib.hid (ends_len 64 p (runesF s) (true :: List.replicate (runesF s).length false) (by simp))
 generalize matchF p s = res at *
 generalize hl : runesF s = l at *
 have HP := Lib.hid hp
 have Hrl := Lib.hid hrl
 obtain ⟨i0, hi, hz0, hz1, hz2⟩ := info_parts info_bool
 clear hx hp hrl hl hs
 go_enter Tryz.func113, Tryz.ntmps113
 go_wp2_with fail
 refine (HRun.out w).mono ?_
 rintro e w1 ⟨v1, rfl, hs1, hb1⟩
 have HS1 := Lib.hid hs1
 have HB1 := Lib.hid hb1
 obtain ⟨A1, k1, rfl, -⟩ := hs1
 have c1' := later hb1 c1
 have hsum : IntKind.i64.wrap ((l.length : Int) + 1) = (l.length : Int) + 1 := IntWalk.i64_in _ (by have := Hrl.out; omega)
 clear hb1 c1
 obtain ⟨n, hn⟩ : ∃ n, n = l.length := ⟨_, rfl⟩
 have Hn := Lib.hid hn
 rw [← hn] at hsum ⊢
 clear hn
 have hmk : ((n + 1 : Nat) : Int) = (n : Int) + 1 := by omega
 go_wp2_with (at_make; refine wpList_make_full _ rfl _ _ 175 rfl w1.heap.size 4 i0 _ 1 Tryz.underlying175 hi hz0 hz1 .i64 .i64 _ _ (n + 1) rfl rfl hmk.symm hmk.symm (by rw [hz2, Hn.out]; have := Hrl.out; omega) (by rw [Hn.out]; have := Hrl.out; simp only [maxLen]; omega) (Nat.le_refl _) ?_; intro w2 hO hg; rw [made_bool] at hO; have HO := Lib.hid hO; have HB2 := Lib.hid (grown_below hg); have c2 := later (grown_below hg) c1'; have y0 : w2.cell? ⟨w1.heap.size, 0, none⟩ = some (.bool false) := own_b hO (by simp) (by simp); have f0 : w2.frozen? ⟨w1.heap.size, 0, none⟩ = false := own_free hO; clear hO hg c1')
 have hO3 := own_set1 (k := 0) (u := .bool true) HO.out (by omega)
 rw [← List.map_set, show (List.replicate (n + 1) false).set 0 true = true :: List.replicate n false from rfl] at hO3
 have hb3 : Below w1.heap.size w1 (w2.setCell ⟨w1.heap.size, 0, none⟩ (.bool true)) := below_cell HB2.out (Nat.le_refl _) _ _
 have hbw := bthen HB1.out hb3
 have hfl : (true :: List.replicate n false).length = n + 1 := by simp
 have hO4 : (w2.setCell ⟨w1.heap.size, 0, none⟩ (.bool true)).ownsRow w1.heap.size 4 1 (.slice (some ⟨w1.heap.size, 0, none⟩) (n + 1) (n + 1)) (true :: List.replicate n false).length ((true :: List.replicate n false).map Value.bool) := by rw [hfl]; exact hO3
 have hcall := rex_ends 64 _ D _ _ tb p (.slice A1 n k1) (.slice (some ⟨w1.heap.size, 0, none⟩) (n + 1) (n + 1)) l (true :: List.replicate n false) (PartAt.move hbw.size (fun j hj _ => hbw.block j hj) (fun _ _ hd => hd) _ _ _ HP.out) (by rw [Hn.out]; exact HS1.out.below hb3) (own_b_slc hO4) (by rw [hfl, Hn.out]) Hrl.out
 have HCall := Lib.hid hcall
 have HO4 := Lib.hid hO4
 have HBw := Lib.hid hbw
 clear hO3 hb3 hbw hfl hO4 hcall
 rw [← Hn.out] at HM HEl
 generalize endsF 64 p l (true :: List.replicate n false) = er at *
 refine HCall.out.mono ?_
 rintro e w4 ⟨v4, rfl, hb4, hv4⟩
 have hsl : ∃ D3, Slc 1 encB w4 D3 v4 er := by
  rcases hv4 with ⟨e1, e2⟩ | hv4
  ·rw [e1, e2]; exact ⟨_, (own_b_slc HO4.out).below hb4⟩
  ·exact ⟨_, own_b_slc hv4⟩
 obtain ⟨D3, A4, k4, e4, -, -, -, -, hR4⟩ := hsl
 subst e4
 have hel : er.length = n + 1 := HEl.out
 have hne : n < er.length := by omega
 obtain ⟨b4, o4, e5, y4⟩ := rd1 (f := Value.bool) hR4 hne
 subst e5
 have hres : res = er[n] := by rw [HM.out, List.getElem?_eq_getElem hne]; rfl
 have HRes := Lib.hid hres
 have HB4 := Lib.hid (bthen HBw.out hb4)
 generalize er[n] = rb at *
 have hi1 : (n : Int) < (er.length : Int) := by omega
 have hi0 : (0 : Int) ≤ (n : Int) := by omega
 clear hb4 hv4 hR4 hel hres hne
 go_wp2_with fail
 go_ret
 exact ⟨ret_bool HRes.out.symm, HB4.out⟩
end Go.Proofs.YtlhmdgaohonpbaaGreatDoor
