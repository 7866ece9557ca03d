import Derived.Test.YtlhmdgaohonpbaaGreatDoorGRxF
import Derived.Laws.RangeAny
set_option linter.unusedSimpArgs false
set_option linter.unusedVariables false
set_option linter.unusedSectionVars false
/- package rex: which places of a text a part leads to: has, join (and what they compute). -/
namespace Go.Proofs.YtlhmdgaohonpbaaGreatDoor
open Go.RowKit Go.Proofs.YtlhmdgaohonpbaaGreatDoor.MapRaw Go.ChangeMaps

def encB (b : Bool) : List Value := [.bool b]
def encR (c : Int) : List Value := [.int .i32 c]
theorem encB_map (l : List Bool) : l.flatMap encB = l.map Value.bool := by
  induction l with
  | nil => rfl
  | cons a l ih => rw [List.flatMap_cons, ih]; rfl
theorem b_len (b : Bool) : (encB b).length = 1 := rfl
def inS (c : Int) (x : Sp) : Bool := decide (x.lo ≤ c) && decide (c ≤ x.hi)
def hasF (set : List Sp) (but : Bool) (c : Int) : Bool := (set.any (inS c)) != but
def joinB (tt ll : List Bool) : List Bool := List.zipWith (fun a b => a || b) tt ll
def newB (tt ll : List Bool) : List Bool := List.zipWith (fun a b => b && !a) tt ll
def moreB (tt ll : List Bool) : Bool := (newB tt ll).any id
def mixB (tt ll : List Bool) (k : Nat) : List Bool := (joinB tt ll).take k ++ tt.drop k
theorem join_len {tt ll : List Bool} (h : ll.length = tt.length) : (joinB tt ll).length = tt.length := by unfold joinB; rw [List.length_zipWith, h]; omega
theorem new_len {tt ll : List Bool} (h : ll.length = tt.length) : (newB tt ll).length = tt.length := by unfold newB; rw [List.length_zipWith, h]; omega
theorem mix_len {tt ll : List Bool} (h : ll.length = tt.length) (k : Nat) (hk : k ≤ tt.length) : (mixB tt ll k).length = tt.length := by
  unfold mixB; rw [List.length_append, List.length_take, join_len h, List.length_drop]; omega
theorem mix_zero (tt ll : List Bool) : mixB tt ll 0 = tt := by unfold mixB; simp
theorem mix_all {tt ll : List Bool} (h : ll.length = tt.length) : mixB tt ll tt.length = joinB tt ll := by
  unfold mixB; rw [List.drop_length, List.append_nil, List.take_of_length_le (by rw [join_len h]; exact Nat.le_refl _)]
theorem mix_get {tt ll : List Bool} (h : ll.length = tt.length) {k : Nat} (hk : k < tt.length) : (mixB tt ll k)[k]? = some tt[k] := by
  unfold mixB
  rw [List.getElem?_append_right (by rw [List.length_take, join_len h]; omega), List.length_take, join_len h, Nat.min_eq_left (by omega), Nat.sub_self, List.getElem?_drop]
  simp [hk]
theorem mix_set {tt ll : List Bool} (h : ll.length = tt.length) {k : Nat} (hk : k < tt.length) : (mixB tt ll k).set k (tt[k] || ll[k]'(by omega)) = mixB tt ll (k + 1) := by
  unfold mixB
  have hj : k < (joinB tt ll).length := by rw [join_len h]; exact hk
  have hl : ((joinB tt ll).take k).length = k := by rw [List.length_take, join_len h]; omega
  rw [List.set_append_right _ _ (by omega), hl, Nat.sub_self, List.drop_eq_getElem_cons hk, List.set_cons_zero, List.take_succ_eq_append_getElem hj, List.append_assoc]
  congr 1
  simp [joinB]
theorem mix_same {tt ll : List Bool} (h : ll.length = tt.length) {k : Nat} (hk : k < tt.length) (he : (tt[k] || ll[k]'(by omega)) = tt[k]) : mixB tt ll (k + 1) = mixB tt ll k := by
  rw [← mix_set h hk, he]
  refine List.ext_getElem? fun i => ?_
  by_cases hi : i = k
  · subst hi
    rw [List.getElem?_set_self (by rw [mix_len h _ (by omega)]; exact hk), mix_get h hk]
  · rw [List.getElem?_set_ne (fun e => hi e.symm)]
end Go.Proofs.YtlhmdgaohonpbaaGreatDoor

/- package rex: has, join. -/
namespace Go.Proofs.YtlhmdgaohonpbaaGreatDoor
open Go.RowKit Go.Proofs.YtlhmdgaohonpbaaGreatDoor.MapRaw Go.ChangeMaps

theorem rd1 {α : Type} {f : α → Value} {w : World} {A : Option Addr} {l : List α} (h : Rd 1 (fun x => [f x]) w A l) {k : Nat} (hk : k < l.length) : ∃ b off, A = some ⟨b, off, none⟩ ∧ w.cell? ⟨b, off + k, none⟩ = some (f l[k]) := by
  obtain ⟨b, off, e, h⟩ := h k l[k] (List.getElem?_eq_getElem hk)
  have := h 0 _ rfl
  simp at this
  exact ⟨b, off, e, this⟩
theorem any_take {α : Type} (f : α → Bool) (l : List α) (k : Nat) (hk : k < l.length) : (l.take (k + 1)).any f = ((l.take k).any f || f l[k]) := by
  rw [List.take_succ_eq_append_getElem hk, List.any_append]
  simp
set_option maxRecDepth 100000 in
set_option maxHeartbeats 2000000 in
theorem rex_has {D : Nat → Prop} {pb : Nat} {set : List Sp} {but plain : Bool} {sv kv : Value} {kind sign : Int} (c : Int) (w : World) (h : w.heap[pb]? = some (.cells #[.int .i64 kind, sv, .bool but, .bool plain, kv, .int .i32 sign] 210 (0, 0))) (hs : Slc 2 Sp.enc w D sv set) :
    Calls Tryz.prog 150 #[.pointer (some ⟨pb, 0, none⟩), .int .i32 c] w fun e w' => e = .returned (.bool (hasF set but c)) ∧ Below w.heap.size w w' := by
  have c1 := blk_cell h 1
  have c2 := blk_cell h 2
  simp at c1 c2
  obtain ⟨A, cp, rfl, p1, p2, -, -, p5⟩ := hs
  have HR := Lib.hid p5
  have hm9 : set.length ≤ 9223372036854775807 := by simp only [maxLen] at p2; omega
  have HHas : Hid (hasF set but c = ((set.any (inS c)) != but)) := Lib.hid rfl
  generalize hasF set but c = res at *
  obtain ⟨m, hmm⟩ : ∃ m, m = set.length := ⟨_, rfl⟩
  have Hm := Lib.hid hmm
  rw [← hmm] at c1 hm9
  clear p1 p2 p5 hmm h
  go_enter Tryz.func150, Tryz.ntmps150
  go_wp2_with fail
  go_loopw [5, 13] (fun iv i wr => ∃ k : Nat, k ≤ m ∧ i = .int .i64 k ∧ iv = .bool ((set.take k).any (inS c)) ∧ Below w.heap.size w wr) (fun _ i _ => m - (intOf i).toNat)
  case atStart => exact ⟨0, Nat.zero_le _, rfl, rfl, Below.refl _ _⟩
  case round =>
    obtain ⟨k, hk, rfl, rfl, hB⟩ := hrel
    have HBr := Lib.hid hB
    by_cases hlt : k < m
    · have hkl : k < set.length := by rw [← Hm.out]; exact hlt
      obtain ⟨b, off, e1, hz⟩ := (Rd.below HR.out hB) k set[k] (List.getElem?_eq_getElem hkl)
      cases e1
      have z0 := hz 0 _ rfl
      have z1 := hz 1 _ rfl
      simp only [Nat.add_zero] at z0 z1
      have HNext := Lib.hid (any_take (inS c) set k hkl)
      have hin : inS c set[k] = (decide (set[k].lo ≤ c) && decide (c ≤ set[k].hi)) := rfl
      have HIn := Lib.hid hin
      generalize set[k] = x at *
      generalize (set.take k).any (inS c) = bi at *
      obtain ⟨lo, hi⟩ := x
      simp only at z0 z1 HIn
      obtain ⟨b1, hb1⟩ : ∃ b, decide (lo ≤ c) = b := ⟨_, rfl⟩
      have hb1' : decide (c ≥ lo) = b1 := hb1
      obtain ⟨b2, hb2⟩ : ∃ b, decide (c ≤ hi) = b := ⟨_, rfl⟩
      have HIn2 : Hid (inS c ⟨lo, hi⟩ = (b1 && b2)) := Lib.hid (by rw [HIn.out, hb1, hb2])
      have HBw := Lib.hid (bthen hB (balloc (Below.refl wr.heap.size wr) (.cells #[.int .i32 lo, .int .i32 hi] 221)))
      clear hB hz hin
      cases bi with
      | true =>
        have HFin : Hid (Value.bool true = .bool ((set.take (k + 1)).any (inS c))) := Lib.hid (by rw [HNext.out]; rfl)
        go_wp2_with fail
        go_roundw
        case rel => exact ⟨k + 1, by omega, by go_num, HFin.out, HBw.out⟩
        case measure => simp [intOf] <;> omega
      | false =>
        cases b1 with
        | false =>
          have HFin : Hid (Value.bool false = .bool ((set.take (k + 1)).any (inS c))) := Lib.hid (by rw [HNext.out, HIn2.out]; rfl)
          go_wp2_with fail
          go_roundw
          case rel => exact ⟨k + 1, by omega, by go_num, HFin.out, HBw.out⟩
          case measure => simp [intOf] <;> omega
        | true =>
          cases b2 with
          | false =>
            have HFin : Hid (Value.bool false = .bool ((set.take (k + 1)).any (inS c))) := Lib.hid (by rw [HNext.out, HIn2.out]; rfl)
            go_wp2_with fail
            go_roundw
            case rel => exact ⟨k + 1, by omega, by go_num, HFin.out, HBw.out⟩
            case measure => simp [intOf] <;> omega
          | true =>
            have HFin : Hid (Value.bool true = .bool ((set.take (k + 1)).any (inS c))) := Lib.hid (by rw [HNext.out, HIn2.out]; rfl)
            go_wp2_with fail
            go_roundw
            case rel => exact ⟨k + 1, by omega, by go_num, HFin.out, HBw.out⟩
            case measure => simp [intOf] <;> omega
    · have hkm : set.take k = set := List.take_of_length_le (by rw [← Hm.out]; omega)
      rw [hkm]
      have d2 := later hB c2
      generalize set.any (inS c) = ba at *
      have HRes := Lib.hid (show res = (ba != but) from HHas.out)
      clear hB hkm
      go_wp2_with fail
      go_ret
      exact ⟨ret_bool HRes.out.symm, HBr.out⟩
theorem own_set1 {W : World} {base g n cap k : Nat} {e : TypeId} {xs : List Value} {u : Value} (h : W.ownsRow base e 1 (.slice (some ⟨g, 0, none⟩) n cap) n xs) (hk : k < n) : (W.setCell ⟨g, k, none⟩ u).ownsRow base e 1 (.slice (some ⟨g, 0, none⟩) n cap) n (xs.set k u) := by
  obtain ⟨h1, ⟨h0, -⟩ | ⟨g', cap', cur, e1, e2, e3, e4, e5, e6, e7⟩⟩ := h
  · cases h0
  · injection e1 with a1 a2 a3
    injection a1 with a1
    injection a1 with a1
    subst a1; subst a3
    refine ⟨by simpa using h1, .inr ⟨g, cap, _, rfl, e2, setCell_blk (i := k) u e3, e4, e5, by simpa using e6, ?_⟩⟩
    rw [← e7]
    simp [List.take_set]
end Go.Proofs.YtlhmdgaohonpbaaGreatDoor

/- package rex: join. -/
namespace Go.Proofs.YtlhmdgaohonpbaaGreatDoor
open Go.RowKit Go.Proofs.YtlhmdgaohonpbaaGreatDoor.MapRaw Go.ChangeMaps

theorem own_free {W : World} {base g n cap k : Nat} {e : TypeId} {xs : List Value} (h : W.ownsRow base e 1 (.slice (some ⟨g, 0, none⟩) n cap) n xs) : W.frozen? ⟨g, k, none⟩ = false := by
  obtain ⟨h1, ⟨h0, -⟩ | ⟨g', cap', cur, e1, e2, e3, e4, e5, e6, e7⟩⟩ := h
  · cases h0
  · injection e1 with a1 a2 a3
    injection a1 with a1
    injection a1 with a1
    subst a1
    exact free_blk (i := k) e3
theorem own_b {W : World} {base g n cap k : Nat} {l : List Bool} {b : Bool} (h : W.ownsRow base 4 1 (.slice (some ⟨g, 0, none⟩) n cap) n (l.map Value.bool)) (hn : n = l.length) (hk : l[k]? = some b) : W.cell? ⟨g, k, none⟩ = some (.bool b) := by
  rw [← encB_map] at h
  obtain ⟨A, c, e, -, -, -, -, hR⟩ := own_slc (enc := encB) b_len hn h
  injection e with e1 e2 e3
  subst e1
  obtain ⟨b', off, e4, hc⟩ := hR k b hk
  injection e4 with e4
  injection e4 with e5 e6
  subst e5; subst e6
  have := hc 0 _ rfl
  simpa using this
set_option maxRecDepth 100000 in
set_option maxHeartbeats 2000000 in
theorem rex_join {D : Nat → Prop} {base : Nat} {tt ll : List Bool} {tv lv : Value} (w : World) (ho : w.ownsRow base 4 1 tv tt.length (tt.map Value.bool)) (hl : Slc 1 encB w D lv ll) (hlen : ll.length = tt.length) (hpos : 0 < tt.length) (hsep : (∀ k, D k → tv.ownBlock ≠ some k) ∨ (lv = tv ∧ ll = tt)) :
    Calls Tryz.prog 151 #[tv, lv] w fun e w' => e = .returned (.bool (moreB tt ll)) ∧ w'.ownsRow base 4 1 tv tt.length ((joinB tt ll).map Value.bool) ∧ Apart (fun k => tv.ownBlock = some k) w w' := by
  obtain ⟨g, cap, rfl⟩ : ∃ g cap, tv = .slice (some ⟨g, 0, none⟩) tt.length cap := by
    obtain ⟨-, ⟨-, h0⟩ | ⟨g, cap, _, e, -⟩⟩ := ho
    · omega
    · exact ⟨g, cap, e⟩
  have hread : ∀ (wr : World) (k : Nat) (hk : k < tt.length), wr.ownsRow base 4 1 (.slice (some ⟨g, 0, none⟩) tt.length cap) tt.length ((mixB tt ll k).map Value.bool) → Apart (fun j => (Value.slice (some ⟨g, 0, none⟩) tt.length cap).ownBlock = some j) w wr → ∃ b off c, lv = .slice (some ⟨b, off, none⟩) ll.length c ∧ wr.cell? ⟨b, off + k, none⟩ = some (.bool (ll[k]'(by omega))) := by
    intro wr k hk hO hA
    rcases hsep with hsep | ⟨e1, e2⟩
    · obtain ⟨A, c, rfl, -, -, -, h4, hR⟩ := hl
      obtain ⟨b, off, rfl, hc⟩ := rd1 (f := Value.bool) hR (show k < ll.length by omega)
      have hD := (h4 _ rfl (fun e => by rw [e] at hlen; simp at hlen; omega)).2.1
      exact ⟨b, off, c, rfl, hA.cell (hsep b hD) hc⟩
    · subst e2
      refine ⟨g, 0, cap, e1, ?_⟩
      rw [Nat.zero_add]
      exact own_b hO (mix_len rfl k (by omega)).symm (mix_get rfl hk)
  have HRead := Lib.hid hread
  obtain ⟨A1, c1, rfl⟩ : ∃ A1 c1, lv = .slice A1 tt.length c1 := by
    obtain ⟨A, c, e, -⟩ := hl
    exact ⟨A, c, by rw [e, hlen]⟩
  have HLen := Lib.hid hlen
  have HO := Lib.hid ho
  have hn9 : tt.length ≤ 9223372036854775807 := by
    obtain ⟨A, c, e, q1, q2, -⟩ := hl
    simp only [maxLen] at q2; omega
  have HJ : Hid (moreB tt ll = (newB tt ll).any id) := Lib.hid rfl
  generalize moreB tt ll = res at *
  obtain ⟨n, hnn⟩ : ∃ n, n = tt.length := ⟨_, rfl⟩
  have Hn := Lib.hid hnn
  rw [← hnn] at hn9 ⊢
  clear ho hl hpos hsep hread hnn
  go_enter Tryz.func151, Tryz.ntmps151
  go_wp2_with fail
  go_loopw [5, 10] (fun mv i wr => ∃ k : Nat, k ≤ n ∧ i = .int .i64 k ∧ mv = .bool (((newB tt ll).take k).any id) ∧ wr.ownsRow base 4 1 (.slice (some ⟨g, 0, none⟩) tt.length cap) tt.length ((mixB tt ll k).map Value.bool) ∧ Apart (fun j => (Value.slice (some ⟨g, 0, none⟩) tt.length cap).ownBlock = some j) w wr) (fun _ i _ => n - (intOf i).toNat)
  case atStart => exact ⟨0, Nat.zero_le _, rfl, rfl, by rw [mix_zero]; exact HO.out, Apart.refl _ _⟩
  case round =>
    obtain ⟨k, hk, rfl, rfl, hO, hA⟩ := hrel
    have HOk := Lib.hid hO
    have HAk := Lib.hid hA
    by_cases hlt : k < n
    · have hkt : k < tt.length := by rw [← Hn.out]; exact hlt
      obtain ⟨b, off, c', e1, y1⟩ := HRead.out wr k hkt hO hA
      injection e1 with e2 e3 e4
      subst e2
      have y2 := own_b hO (mix_len HLen.out k (by omega)).symm (mix_get HLen.out hkt)
      have f2 : wr.frozen? ⟨g, k, none⟩ = false := own_free hO
      have hkl : k < ll.length := by rw [HLen.out]; exact hkt
      have hkn : k < (newB tt ll).length := by rw [new_len HLen.out]; exact hkt
      have hnw : (newB tt ll)[k] = (ll[k] && !tt[k]) := by simp [newB]
      have HNext : Hid (((newB tt ll).take (k + 1)).any id = (((newB tt ll).take k).any id || (ll[k] && !tt[k]))) := Lib.hid (by rw [any_take id _ k hkn, hnw]; rfl)
      have HSame : Hid ((tt[k] || ll[k]) = tt[k] → mixB tt ll (k + 1) = mixB tt ll k) := Lib.hid (fun he => mix_same HLen.out hkt he)
      have HSet : Hid ((mixB tt ll k).set k (tt[k] || ll[k]) = mixB tt ll (k + 1)) := Lib.hid (mix_set HLen.out hkt)
      have hi0 : (0 : Int) ≤ (k : Int) := by omega
      have hi1 : (k : Int) < (n : Int) := by omega
      have hi2 : (k : Int) < (tt.length : Int) := by omega
      generalize ll[k] = lb at *
      generalize tt[k] = tb at *
      generalize ((newB tt ll).take k).any id = mo at *
      rw [← Hn.out] at hi2
      clear hO hA e3 e4 hnw hkn hkl hkt
      cases lb with
      | false =>
        have HFin : Hid (Value.bool mo = .bool (((newB tt ll).take (k + 1)).any id)) := Lib.hid (by rw [HNext.out]; simp)
        have HO2 : Hid (wr.ownsRow base 4 1 (.slice (some ⟨g, 0, none⟩) tt.length cap) tt.length ((mixB tt ll (k + 1)).map Value.bool)) := Lib.hid (by rw [HSame.out (by simp)]; exact HOk.out)
        go_wp2_with fail
        go_roundw
        case rel => exact ⟨k + 1, by omega, by go_num, HFin.out, HO2.out, HAk.out⟩
        case measure => simp [intOf] <;> omega
      | true =>
        cases tb with
        | true =>
          have HFin : Hid (Value.bool mo = .bool (((newB tt ll).take (k + 1)).any id)) := Lib.hid (by rw [HNext.out]; simp)
          have HO2 : Hid (wr.ownsRow base 4 1 (.slice (some ⟨g, 0, none⟩) tt.length cap) tt.length ((mixB tt ll (k + 1)).map Value.bool)) := Lib.hid (by rw [HSame.out (by simp)]; exact HOk.out)
          go_wp2_with fail
          go_roundw
          case rel => exact ⟨k + 1, by omega, by go_num, HFin.out, HO2.out, HAk.out⟩
          case measure => simp [intOf] <;> omega
        | false =>
          have HFin : Hid (Value.bool true = .bool (((newB tt ll).take (k + 1)).any id)) := Lib.hid (by rw [HNext.out]; simp)
          have hO2 := own_set1 (k := k) (u := .bool true) HOk.out (by rw [← Hn.out]; exact hlt)
          rw [← List.map_set, show (mixB tt ll k).set k true = mixB tt ll (k + 1) from HSet.out] at hO2
          have HO2 := Lib.hid hO2
          have HA2 := Lib.hid (HAk.out.setC ⟨g, k, none⟩ (.inl rfl) (.bool true))
          clear hO2
          go_wp2_with fail
          go_roundw
          case rel => exact ⟨k + 1, by omega, by go_num, HFin.out, HO2.out, HA2.out⟩
          case measure => simp [intOf] <;> omega
    · have hkn : k = n := by omega
      subst hkn
      have hO2 := hO
      rw [Hn.out, mix_all HLen.out] at hO2
      have HO2 := Lib.hid hO2
      have HRes : Hid (res = ((newB tt ll).take k).any id) := Lib.hid (by rw [HJ.out, List.take_of_length_le (by rw [new_len HLen.out, ← Hn.out]; exact Nat.le_refl _)])
      generalize ((newB tt ll).take k).any id = mo at *
      clear hO hA hO2
      go_wp2_with fail
      go_ret
      exact ⟨ret_bool HRes.out.symm, by rw [Hn.out]; exact HO2.out, by rw [Hn.out]; exact HAk.out⟩
end Go.Proofs.YtlhmdgaohonpbaaGreatDoor

/- package rex: runes; a copy of bools. -/
namespace Go.Proofs.YtlhmdgaohonpbaaGreatDoor
open Go.RowKit Go.Proofs.YtlhmdgaohonpbaaGreatDoor.MapRaw Go.ChangeMaps

theorem run_next_at {P : Program} (W : World) (ib : Nat) (s : ByteArray) (pos : Nat) (ty : TypeId) (h : W.heap[ib]? = some (.stringIter s pos)) (hp : pos < s.size) :
    (Instr.next (.pointer (some ⟨ib, 0, none⟩)) true ty).run P W = .ok (.tuple #[.bool true, .int .i64 pos, .int .i32 (Utf8.decode s pos).1]) (setBlock W ib (.stringIter s (pos + (Utf8.decode s pos).2))) := by
  simp only [Instr.next, getObj, setObj, Sem.run_bind, Sem.run, h, Result.andThen, hp, if_true]
  simp [goInt, setBlock]
theorem run_next_stop {P : Program} (W : World) (ib : Nat) (s : ByteArray) (pos : Nat) (ty : TypeId) (h : W.heap[ib]? = some (.stringIter s pos)) (hp : ¬ pos < s.size) :
    (Instr.next (.pointer (some ⟨ib, 0, none⟩)) true ty).run P W = .ok (.tuple #[.bool false]) W := by
  simp [Instr.next, getObj, Sem.run, h, hp]
theorem iterPos_at {W : World} {k p : Nat} {s : ByteArray} (h : W.heap[k]? = some (.stringIter s p)) : W.iterPos k = p := by simp [World.iterPos, h]
theorem width1 (s : ByteArray) (pos : Nat) (h : pos < s.size) : 1 ≤ (Utf8.decode s pos).2 := by
  by_cases ha : (s[pos]'h).toNat < 128
  · rw [decode_ascii s pos h ha]
    exact Nat.le_refl _
  · exact (Go.decode_high s pos h (by omega)).2
def runesFrom (s : ByteArray) : Nat → Nat → List Int
  | 0, _ => []
  | n + 1, pos => if pos < s.size then ((Utf8.decode s pos).1 : Int) :: runesFrom s n (pos + (Utf8.decode s pos).2) else []
/-- a text's runes -/
def runesF (s : ByteArray) : List Int := runesFrom s s.size 0
theorem info_i32 : (Tryz.prog.info? 21).map (fun i => (i.zero, i.size, i.bytes)) = some (some (.int .i32 0), 1, 4) := by kernel_rfl
theorem info_bool : (Tryz.prog.info? 4).map (fun i => (i.zero, i.size, i.bytes)) = some (some (.bool false), 1, 1) := by kernel_rfl
theorem r_len (c : Int) : (encR c).length = 1 := rfl
structure RunesTo (w : World) (s : ByteArray) (pos : Nat) (v : Value) (acc : List Int) (W : World) : Prop where
  it : W.heap[w.heap.size]? = some (.stringIter s pos)
  own : W.ownsRow (w.heap.size + 1) 21 1 v acc.length (acc.flatMap encR)
  below : Below w.heap.size w W
theorem RunesTo.size {w W : World} {s : ByteArray} {pos : Nat} {v : Value} {acc : List Int} (h : RunesTo w s pos v acc W) : w.heap.size + 1 ≤ W.heap.size := (Array.getElem?_eq_some_iff.1 h.it).1
theorem set_other (W : World) (k : Nat) (o : Obj) (j : Nat) (h : j ≠ k) : (setBlock W k o).heap[j]? = W.heap[j]? := by
  simp only [setBlock]
  rw [Array.getElem?_setIfInBounds_ne (fun e => h e.symm)]
theorem set_size (W : World) (k : Nat) (o : Obj) : (setBlock W k o).heap.size = W.heap.size := by simp [setBlock]
theorem RunesTo.step {w W : World} {s : ByteArray} {pos p2 : Nat} {v : Value} {acc : List Int} (h : RunesTo w s pos v acc W) : RunesTo w s p2 v acc (setBlock W w.heap.size (.stringIter s p2)) := by
  have hsz := h.size
  refine ⟨setBlock_at (by omega) _, ownsRow_move h.own fun k hk => set_other _ _ _ _ (by have := (ownsRow_blk h.own k hk).1; omega), ⟨h.below.os, h.below.tape, h.below.output, by rw [set_size]; exact h.below.size, fun k hk => (set_other _ _ _ _ (by omega)).trans (h.below.block k hk)⟩⟩
theorem RunesTo.push {w W w1 : World} {s : ByteArray} {pos : Nat} {v v1 : Value} {acc : List Int} {c : Int} (h : RunesTo w s pos v acc W) (ho : w1.ownsRow (w.heap.size + 1) 21 1 v1 (acc.length + 1) (acc.flatMap encR ++ encR c)) (hb : Below (w.heap.size + 1) W w1) : RunesTo w s pos v1 (acc ++ [c]) w1 := by
  refine ⟨(hb.block _ (by omega)).trans h.it, ?_, ⟨hb.os.trans h.below.os, hb.tape.trans h.below.tape, hb.output.trans h.below.output, Nat.le_trans h.below.size hb.size, fun k hk => (hb.block k (by omega)).trans (h.below.block k hk)⟩⟩
  rw [List.length_append, List.flatMap_append]
  simpa using ho
def RunesPost (w : World) (l : List Int) (e : Ending) (w' : World) : Prop := ∃ v, e = .returned v ∧ Slc 1 encR w' (fun k => w.heap.size ≤ k) v l ∧ Below w.heap.size w w'
set_option maxRecDepth 100000 in
set_option maxHeartbeats 2000000 in
theorem rex_runes (s : ByteArray) (w : World) (hs : s.size ≤ 1000000) : Calls Tryz.prog 138 #[.string s] w (RunesPost w (runesF s)) := by
  have HRn : Hid (runesFrom s s.size 0 = runesF s) := Lib.hid rfl
  generalize runesF s = tot at *
  go_enter Tryz.func138, Tryz.ntmps138
  go_wp2_with fail
  have h0 : RunesTo w s 0 (.slice none 0 0) [] (w.iter s 0) := ⟨World.iter_heap w s 0, ⟨rfl, .inl ⟨rfl, rfl⟩⟩, Below.alloc (Below.refl _ _) (Nat.le_refl _) _⟩
  have H0 := Lib.hid h0
  clear h0
  go_loopw [3] (fun ov wr => ∃ (pos n : Nat) (acc : List Int), RunesTo w s pos ov acc wr ∧ acc ++ runesFrom s n pos = tot ∧ s.size ≤ pos + n ∧ acc.length ≤ pos ∧ acc.length ≤ s.size) (fun _ wr => s.size - wr.iterPos w.heap.size)
  case atStart => exact ⟨0, s.size, [], H0.out, HRn.out, by omega, by simp, by simp⟩
  case round =>
    obtain ⟨pos, n, acc, hR, htot, hn, hacc, hacc2⟩ := hrel
    have HR := Lib.hid hR
    obtain ⟨Av, cv, e3⟩ := own_slice hR.own
    subst e3
    by_cases hp : pos < s.size
    · have hnx : ∀ ty, (Instr.next (.pointer (some ⟨w.heap.size, 0, none⟩)) true ty).run Tryz.prog wr = _ := fun ty => run_next_at wr w.heap.size s pos ty hR.it hp
      have hwd := width1 s pos hp
      have htot2 : acc ++ ((Utf8.decode s pos).1 : Int) :: runesFrom s (n - 1) (pos + (Utf8.decode s pos).2) = tot := by
        cases n with
        | zero => omega
        | succ n => have h9 := htot; rw [runesFrom, if_pos hp] at h9; exact h9
      have HRs := Lib.hid (hR.step (p2 := pos + (Utf8.decode s pos).2))
      generalize (Utf8.decode s pos).1 = dc at *
      generalize (Utf8.decode s pos).2 = dn at *
      have hsm : acc.length < s.size ∧ acc.length + 1 ≤ pos + dn := by omega
      have HT := Lib.hid htot2
      have HNn : Hid (s.size ≤ pos + dn + (n - 1) ∧ pos < pos + dn ∧ pos < s.size) := Lib.hid (by omega)
      have HSm := Lib.hid hsm
      have HIt := Lib.hid hR.it
      have hlen : (acc.length + 1) * 4 ≤ 140737488355328 := by omega
      generalize setBlock wr w.heap.size (.stringIter s (pos + dn)) = w2 at *
      have HBa : Hid (RunesTo w s (pos + dn) (.slice Av acc.length cv) acc (w2.alloc (.cells #[.int .i32 dc] 21))) := Lib.hid ⟨blk_below HRs.out.it (balloc (Below.refl _ _) _), own_below HRs.out.own (balloc (Below.refl _ _) _), bthen HRs.out.below (balloc (Below.refl _ _) _)⟩
      have hsz := HBa.out.size
      clear hR htot hn hacc hacc2 htot2 hsm hwd hp
      go_wp2_with (at_builtin; refine wpList_app2 (w0 := w2.alloc (.cells #[.int .i32 dc] 21)) (w.heap.size + 1) rfl _ _ 173 21 _ 1 4 1 (encR dc) rfl Tryz.underlying173 info_i32 rfl (by decide) (by decide) (.slice Av acc.length cv) (.slice (some ⟨w2.heap.size, 0, none⟩) 1 1) acc.length (acc.flatMap encR) ?hs ?hxe ?hx HBa.out.own (Below.refl _ _) hsz hlen ?_)
      try case hs => rfl
      try case hxe => rfl
      case hx => exact src_block (m := 1) (size := 1) (cs := #[.int .i32 dc]) (blk_new _ _) rfl (fun u hu => by simp at hu; subst hu; rfl) 1
      intro v5 w5 hO5 hB5 hg5 hat5
      have HR5 := Lib.hid (HBa.out.push hO5 hB5)
      clear hO5 hB5 hg5 hat5 hsz
      go_wp2_with fail
      go_roundw
      case rel => exact ⟨pos + dn, n - 1, acc ++ [(dc : Int)], HR5.out, by rw [← HT.out]; simp, HNn.out.1, by rw [List.length_append]; exact HSm.out.2, by rw [List.length_append]; exact HSm.out.1⟩
      case measure => rw [iterPos_at HR5.out.it, iterPos_at HIt.out]; have := HNn.out; omega
    · have hnx : ∀ ty, (Instr.next (.pointer (some ⟨w.heap.size, 0, none⟩)) true ty).run Tryz.prog wr = _ := fun ty => run_next_stop wr w.heap.size s pos ty hR.it hp
      have hacc3 : acc = tot := by
        rw [← htot]
        cases n with
        | zero => simp [runesFrom]
        | succ n => rw [runesFrom, if_neg hp]; simp
      subst hacc3
      clear hR htot hn hacc hacc2 HRn
      go_wp2_with fail
      go_ret
      exact ⟨_, rfl, own_slc (enc := encR) r_len rfl (own_shift HR.out.own (Nat.le_succ _)), HR.out.below⟩
end Go.Proofs.YtlhmdgaohonpbaaGreatDoor
