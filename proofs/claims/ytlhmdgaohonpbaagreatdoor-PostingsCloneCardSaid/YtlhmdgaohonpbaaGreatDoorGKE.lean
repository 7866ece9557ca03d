import Derived.Test.YtlhmdgaohonpbaaGreatDoorGKD
import Derived.Test.YtlhmdgaohonpbaaGreatDoorGRxG
import Derived.Test.YtlhmdgaohonpbaaGreatDoorGEq
import Derived.Deep.RegionLaw
set_option linter.unusedSimpArgs false
set_option linter.unusedVariables false
set_option linter.unusedSectionVars false
namespace Go.Proofs.YtlhmdgaohonpbaaGreatDoor
open Go.RowKit Go.Proofs.YtlhmdgaohonpbaaGreatDoor.MapRaw Go.ChangeMaps
set_option maxRecDepth 100000 in
set_option maxHeartbeats 2000000 in
theorem k_runes (s : ByteArray) (w : World) (hs : s.size ≤ 1000000) : Calls Tryz.prog 129 #[.string s] w (RunesPost w (runesF s)) := by
 have HRn : Hid (runesFrom s s.size 0 = runesF s) := Lib.hid rfl
 generalize runesF s = tot at *
 go_enter Tryz.func129, Tryz.ntmps129
 go_wp2_with fail
 have h0 : RunesTo w s 0 (.slice none 0 0) [] (w.iter s 0) := ⟨World.iter_heap w s 0, ⟨rfl, .inl ⟨rfl, rfl⟩⟩, Below.alloc (Below.refl _ _) (Nat.le_refl _) _⟩
 have H0 := Lib.hid h0
 clear h0
 go_loopw [3] (fun ov wr => ∃ (pos n : Nat) (acc : List Int), RunesTo w s pos ov acc wr ∧ acc ++ runesFrom s n pos = tot ∧ s.size ≤ pos + n ∧ acc.length ≤ pos ∧ acc.length ≤ s.size) (fun _ wr => s.size - wr.iterPos w.heap.size)
 case atStart => exact ⟨0, s.size, [], H0.out, HRn.out, by omega, by simp, by simp⟩
 case round =>
  obtain ⟨pos, n, acc, hR, htot, hn, hacc, hacc2⟩ := hrel
  have HR := Lib.hid hR
  obtain ⟨Av, cv, e3⟩ := own_slice hR.own
  subst e3
  by_cases hp : pos < s.size
  ·have hnx : ∀ ty, (Instr.next (.pointer (some ⟨w.heap.size, 0, none⟩)) true ty).run Tryz.prog wr = _ := fun ty => run_next_at wr w.heap.size s pos ty hR.it hp
   have hwd := width1 s pos hp
   have htot2 : acc ++ ((Utf8.decode s pos).1 : Int) :: runesFrom s (n - 1) (pos + (Utf8.decode s pos).2) = tot := by
    cases n with
    | zero => omega
    | succ n => have h9 := htot; rw [runesFrom, if_pos hp] at h9; exact h9
   have HRs := Lib.hid (hR.step (p2 := pos + (Utf8.decode s pos).2))
   generalize (Utf8.decode s pos).1 = dc at *
   generalize (Utf8.decode s pos).2 = dn at *
   have hsm : acc.length < s.size ∧ acc.length + 1 ≤ pos + dn := by omega
   have HT := Lib.hid htot2
   have HNn : Hid (s.size ≤ pos + dn + (n - 1) ∧ pos < pos + dn ∧ pos < s.size) := Lib.hid (by omega)
   have HSm := Lib.hid hsm
   have HIt := Lib.hid hR.it
   have hlen : (acc.length + 1) * 4 ≤ 140737488355328 := by omega
   generalize setBlock wr w.heap.size (.stringIter s (pos + dn)) = w2 at *
   have HBa : Hid (RunesTo w s (pos + dn) (.slice Av acc.length cv) acc (w2.alloc (.cells #[.int .i32 dc] 21))) := Lib.hid ⟨blk_below HRs.out.it (balloc (Below.refl _ _) _), own_below HRs.out.own (balloc (Below.refl _ _) _), bthen HRs.out.below (balloc (Below.refl _ _) _)⟩
   have hsz := HBa.out.size
   clear hR htot hn hacc hacc2 htot2 hsm hwd hp
   go_wp2_with (at_builtin; refine wpList_app2 (w0 := w2.alloc (.cells #[.int .i32 dc] 21)) (w.heap.size + 1) rfl _ _ 173 21 _ 1 4 1 (encR dc) rfl Tryz.underlying173 info_i32 rfl (by decide) (by decide) (.slice Av acc.length cv) (.slice (some ⟨w2.heap.size, 0, none⟩) 1 1) acc.length (acc.flatMap encR) ?hs ?hxe ?hx HBa.out.own (Below.refl _ _) hsz hlen ?_)
   try case hs => rfl
   try case hxe => rfl
   case hx => exact src_block (m := 1) (size := 1) (cs := #[.int .i32 dc]) (blk_new _ _) rfl (fun u hu => by simp at hu; subst hu; rfl) 1
   intro v5 w5 hO5 hB5 hg5 hat5
   have HR5 := Lib.hid (HBa.out.push hO5 hB5)
   clear hO5 hB5 hg5 hat5 hsz
   go_wp2_with fail
   go_roundw
   case rel => exact ⟨pos + dn, n - 1, acc ++ [(dc : Int)], HR5.out, by rw [← HT.out]; simp, HNn.out.1, by rw [List.length_append]; exact HSm.out.2, by rw [List.length_append]; exact HSm.out.1⟩
   case measure => rw [iterPos_at HR5.out.it, iterPos_at HIt.out]; have := HNn.out; omega
  ·have hnx : ∀ ty, (Instr.next (.pointer (some ⟨w.heap.size, 0, none⟩)) true ty).run Tryz.prog wr = _ := fun ty => run_next_stop wr w.heap.size s pos ty hR.it hp
   have hacc3 : acc = tot := by
    rw [← htot]
    cases n with
    | zero => simp [runesFrom]
    | succ n => rw [runesFrom, if_neg hp]; simp
   subst hacc3
   clear hR htot hn hacc hacc2 HRn
   go_wp2_with fail
   go_ret
   exact ⟨_, rfl, own_slc (enc := encR) r_len rfl (own_shift HR.out.own (Nat.le_succ _)), HR.out.below⟩
set_option maxRecDepth 100000 in
set_option maxHeartbeats 2000000 in
theorem k_in {D : Nat → Prop} {kind a b : Int} {sv : Value} {set : List Sp} {but : Bool} (c : Int) (w : World) (hs : Slc 2 Sp.enc w D sv set) :
  Calls Tryz.prog 145 #[.agg #[.int .i64 kind, .int .i64 a, .int .i64 b, sv, .bool but], .int .i32 c] w fun e w' => e = .returned (.bool (hasF set but c)) ∧ Below w.heap.size w w' := by
 obtain ⟨A, cp, rfl, p1, p2, -, -, p5⟩ := hs
 have HR := Lib.hid p5
 have hm9 : set.length ≤ 9223372036854775807 := by simp only [maxLen] at p2; omega
 have HHas : Hid (hasF set but c = ((set.any (inS c)) != but)) := Lib.hid rfl
 generalize hasF set but c = res at *
 obtain ⟨m, hmm⟩ : ∃ m, m = set.length := ⟨_, rfl⟩
 have Hm := Lib.hid hmm
 rw [← hmm] at hm9 ⊢
 clear p1 p2 p5 hmm
 have HB0 := Lib.hid (balloc (Below.refl w.heap.size w) (.cells #[.int .i64 kind, .int .i64 a, .int .i64 b, .slice A m cp, .bool but] 183))
 have hblk := blk_new w (.cells #[.int .i64 kind, .int .i64 a, .int .i64 b, .slice A m cp, .bool but] 183)
 have hsz : (w.alloc (.cells #[.int .i64 kind, .int .i64 a, .int .i64 b, .slice A m cp, .bool but] 183)).heap.size = w.heap.size + 1 := Array.size_push _
 go_enter Tryz.func145, Tryz.ntmps145
 go_wp2_with fail
 generalize w.alloc (.cells #[.int .i64 kind, .int .i64 a, .int .i64 b, .slice A m cp, .bool but] 183) = w1 at *
 have HS1 := Lib.hid hsz
 have HBlk := Lib.hid hblk
 clear hsz hblk
 go_loopw [10] (fun i wr => ∃ k : Nat, k ≤ m ∧ i = .int .i64 k ∧ (set.take k).any (inS c) = false ∧ Below w1.heap.size w1 wr) (fun i _ => m - (intOf i).toNat)
 case atStart => exact ⟨0, Nat.zero_le _, rfl, rfl, Below.refl _ _⟩
 case round =>
  obtain ⟨k, hk, rfl, hno, hB⟩ := hrel
  have HBr := Lib.hid hB
  have HNo := Lib.hid hno
  have q4 := blk_cell (blk_below HBlk.out hB) 4
  simp at q4
  by_cases hlt : k < m
  ·have hkl : k < set.length := by rw [← Hm.out]; exact hlt
   obtain ⟨b', off, e1, hz⟩ := (Rd.below HR.out (bthen HB0.out hB)) k set[k] (List.getElem?_eq_getElem hkl)
   cases e1
   have z0 := hz 0 _ rfl
   have z1 := hz 1 _ rfl
   simp only [Nat.add_zero] at z0 z1
   have HNext := Lib.hid (any_take (inS c) set k hkl)
   have hin : inS c set[k] = (decide (set[k].lo ≤ c) && decide (c ≤ set[k].hi)) := rfl
   have HIn := Lib.hid hin
   have HMem := Lib.hid (List.getElem_mem hkl)
   have HAny : Hid (inS c set[k] = true → set.any (inS c) = true) := Lib.hid (fun h => List.any_eq_true.2 ⟨_, List.getElem_mem hkl, h⟩)
   generalize set[k] = x at *
   obtain ⟨lo, hi⟩ := x
   simp only at z0 z1 HIn
   obtain ⟨b1, hb1⟩ : ∃ b, decide (lo ≤ c) = b := ⟨_, rfl⟩
   have hb1' : decide (c ≥ lo) = b1 := hb1
   obtain ⟨b2, hb2⟩ : ∃ b, decide (c ≤ hi) = b := ⟨_, rfl⟩
   have HIn2 : Hid (inS c ⟨lo, hi⟩ = (b1 && b2)) := Lib.hid (by rw [HIn.out, hb1, hb2])
   have HBw := Lib.hid (bthen hB (balloc (Below.refl wr.heap.size wr) (.cells #[.int .i32 lo, .int .i32 hi] 214)))
   have q5 : ∀ o', (wr.alloc o').cell? ⟨w.heap.size, 4, none⟩ = some (.bool but) := fun o' => later (balloc (Below.refl _ _) o') q4
   clear hB hz hin hno
   cases b1 with
   | false =>
    have HFin : Hid ((set.take (k + 1)).any (inS c) = false) := Lib.hid (by rw [HNext.out, HNo.out, HIn2.out]; rfl)
    go_wp2_with fail
    go_roundw
    case rel => exact ⟨k + 1, by omega, by go_num, HFin.out, HBw.out⟩
    case measure => simp [intOf] <;> omega
   | true =>
    cases b2 with
    | false =>
     have HFin : Hid ((set.take (k + 1)).any (inS c) = false) := Lib.hid (by rw [HNext.out, HNo.out, HIn2.out]; rfl)
     go_wp2_with fail
     go_roundw
     case rel => exact ⟨k + 1, by omega, by go_num, HFin.out, HBw.out⟩
     case measure => simp [intOf] <;> omega
    | true =>
     have HRes : Hid (res = !but) := Lib.hid (by rw [HHas.out, HAny.out HIn2.out]; cases but <;> rfl)
     have HBf := Lib.hid (bthen HB0.out HBw.out)
     go_wp2_with fail
     go_ret
     exact ⟨ret_bool HRes.out.symm, HBf.out⟩
  ·have hkm : set.take k = set := List.take_of_length_le (by rw [← Hm.out]; omega)
   rw [hkm] at hno
   have HRes : Hid (res = but) := Lib.hid (by rw [HHas.out, hno]; cases but <;> rfl)
   have HBf := Lib.hid (bthen HB0.out hB)
   clear hB hkm hno
   go_wp2_with fail
   go_ret
   exact ⟨ret_bool HRes.out.symm, HBf.out⟩
end Go.Proofs.YtlhmdgaohonpbaaGreatDoor

namespace Go.Proofs.YtlhmdgaohonpbaaGreatDoor
open Go.RowKit Go.Proofs.YtlhmdgaohonpbaaGreatDoor.MapRaw Go.ChangeMaps
def DPost (w : World) (res : List Bool) (e : Ending) (w' : World) : Prop := ∃ v, e = .returned v ∧ Below w.heap.size w w' ∧ w'.ownsRow w.heap.size 4 1 v res.length (res.map Value.bool)
def DEnds (pb : Nat) (lv : Value) (top : Int) (l : List Nc) (i : Nat) (nd : Nd) : Prop := ∀ (w : World) (D1 D2 : Nat → Prop) (rv fv : Value) (rs : List Int) (fr : List Bool), XAt pb lv top l w → Slc 1 encR w D1 rv rs → Slc 1 encB w D2 fv fr → fr.length = rs.length + 1 → rs.length ≤ 1000000 →
 Calls Tryz.prog 130 #[.pointer (some ⟨pb, 3, none⟩), .int .i64 i, rv, fv] w (DPost w (endsN nd rs fr))
theorem xat_node {pb : Nat} {lv : Value} {top : Int} {l : List Nc} {w : World} {i : Nat} {k : NodeC} (h : XAt pb lv top l w) (hi : (l.map Nc.key)[i]? = some k) : ∃ b off c sv, lv = .slice (some ⟨b, off, none⟩) l.length c ∧ w.cell? ⟨pb, 3, none⟩ = some lv ∧ i < l.length ∧ w.cell? ⟨b, off + i * 5, none⟩ = some (.int .i64 k.kind) ∧ w.cell? ⟨b, off + i * 5 + 1, none⟩ = some (.int .i64 k.a) ∧ w.cell? ⟨b, off + i * 5 + 2, none⟩ = some (.int .i64 k.b) ∧ w.cell? ⟨b, off + i * 5 + 3, none⟩ = some sv ∧ w.cell? ⟨b, off + i * 5 + 4, none⟩ = some (.bool k.but) ∧ Slc 2 Sp.enc w (fun _ => True) sv k.set := by
 rw [List.getElem?_map] at hi
 cases hx : l[i]? with
 | none => rw [hx] at hi; cases hi
 | some x =>
  rw [hx] at hi
  cases hi
  obtain ⟨A, c, rfl, -, -, -, -, hR⟩ := h.row
  obtain ⟨b, off, rfl, z⟩ := hR _ _ hx
  have z0 := z 0 _ rfl
  have z1 := z 1 _ rfl
  have z2 := z 2 _ rfl
  have z3 := z 3 _ rfl
  have z4 := z 4 _ rfl
  exact ⟨b, off, c, x.sv, rfl, h.lc, (List.getElem?_eq_some_iff.1 hx).1, z0, z1, z2, z3, z4, h.sets x (List.mem_of_getElem? hx)⟩
set_option maxRecDepth 100000 in
set_option maxHeartbeats 4000000 in
theorem k_ends_none {pb : Nat} {lv : Value} {top : Int} {l : List Nc} {i : Nat} (hk : (l.map Nc.key)[i]? = some ⟨6, 0, 0, [], false⟩) : DEnds pb lv top l i .none := by
 intro w D1 D2 rv fv rs fr hX hr hf hlen hl6
 obtain ⟨b, off, c, sv, rfl, c3, hil, z0, z1, z2, z3, z4, hsv⟩ := xat_node hX hk
 have hres : endsN .none rs fr = fr := rfl
 rw [hres]
 obtain ⟨As, cs, rfl, -⟩ := hsv
 obtain ⟨i0, hi, hz0, hz1, hz2⟩ := info_parts info_bool
 have HSrc := Lib.hid (hf.src b_len (fun x u hu => by simp [encB] at hu; subst hu; rfl) (by decide))
 have HF := Lib.hid hf
 obtain ⟨A4, c4, rfl, -⟩ := id hf
 obtain ⟨A3, c3', rfl, -⟩ := id hr
 have hn6 : fr.length ≤ 1000001 := by omega
 have Hn6 := Lib.hid hn6
 have hi0 : (0 : Int) ≤ (i : Int) := by omega
 have hi1 : (i : Int) < (l.length : Int) := by omega
 generalize l.length = ll at *
 generalize rs.length = rl at *
 simp only [List.length_nil] at z3
 clear hX hr hf hlen hl6 hn6 hil hk
 go_enter Tryz.func130, Tryz.ntmps130
 go_upto_region 2 with fail
 have HB0 := Lib.hid (balloc (Below.refl w.heap.size w) (.cells #[.int .i64 6, .int .i64 0, .int .i64 0, .slice As 0 cs, .bool false] 183))
 have n0 : (w.alloc (.cells #[.int .i64 6, .int .i64 0, .int .i64 0, .slice As 0 cs, .bool false] 183)).cell? ⟨w.heap.size, 0, none⟩ = some (.int .i64 6) := by simp
 generalize w.alloc (.cells #[.int .i64 6, .int .i64 0, .int .i64 0, .slice As 0 cs, .bool false] 183) = w1 at *
 go_wp2_with (first | (at_make; refine wpList_make_full _ rfl _ _ 175 rfl w1.heap.size 4 i0 _ 1 Tryz.underlying175 hi hz0 hz1 .i64 .i64 _ _ fr.length rfl rfl rfl rfl (by rw [hz2]; have := Hn6.out; omega) (by have := Hn6.out; simp only [maxLen]; omega) (Nat.le_refl _) ?_; intro w2 hO hg; have HO := Lib.hid hO; have HB2 := Lib.hid (grown_below hg); have n1 := later (grown_below hg) n0; clear hO hg) | (refine wpList_copy_full (o := ⟨some 130, _, _, _, _, _⟩) (w0 := w1) w1.heap.size rfl _ _ 175 4 1 fr.length _ (fr.flatMap encB) rfl Tryz.underlying175 rfl w1.heap.size _ rfl rfl HO.out (HSrc.out.below (bthen HB0.out HB2.out)) HB2.out ?_; intro w3 hO3 hB3 _; have HO3 := Lib.hid hO3; have HB3 := Lib.hid hB3; clear hO3 hB3))
 go_ret
 have hO := HO3.out
 rw [encB_map] at hO
 exact ⟨_, rfl, bthen HB0.out HB3.out, own_shift hO HB0.out.size⟩
end Go.Proofs.YtlhmdgaohonpbaaGreatDoor

namespace Go.Proofs.YtlhmdgaohonpbaaGreatDoor
open Go.RowKit Go.Proofs.YtlhmdgaohonpbaaGreatDoor.MapRaw Go.ChangeMaps
theorem blk_of_cell {w : World} {b o : Nat} {v : Value} (h : w.cell? ⟨b, o, none⟩ = some v) : b < w.heap.size := by
 unfold World.cell? at h
 simp only at h
 cases hb : w.heap[b]? with
 | none => rw [hb] at h; cases h
 | some x => exact (Array.getElem?_eq_some_iff.1 hb).1
set_option maxRecDepth 100000 in
set_option maxHeartbeats 4000000 in
theorem k_ends_set {pb : Nat} {lv : Value} {top : Int} {l : List Nc} {i : Nat} {set : List Sp} {but : Bool} (hk : (l.map Nc.key)[i]? = some ⟨0, 0, 0, set, but⟩) : DEnds pb lv top l i (.set set but) := by
 intro w D1 D2 rv fv rs fr hX hr hf hlen hl6
 obtain ⟨b, off, c, sv, rfl, c3, hil, z0, z1, z2, z3, z4, hsv⟩ := xat_node hX hk
 have hres : endsN (.set set but) rs fr = oneF set but rs fr := rfl
 rw [hres]
 have HHas := Lib.hid fun (c : Int) (W : World) (hW : Below w.heap.size w W) => k_in (kind := 0) (a := 0) (b := 0) (but := but) c W (hsv.below hW)
 obtain ⟨As, cs, rfl, -⟩ := hsv
 obtain ⟨i0, hi, hz0, hz1, hz2⟩ := info_parts info_bool
 obtain ⟨A4, c4, rfl, -, -, -, -, hRf⟩ := hf
 obtain ⟨A3, c3', rfl, -, -, -, -, hRl⟩ := hr
 have HRd1 := Lib.hid fun (W : World) (hW : Below w.heap.size w W) => Rd.below hRl hW
 have HRd2 := Lib.hid fun (W : World) (hW : Below w.heap.size w W) => Rd.below hRf hW
 obtain ⟨z, hz⟩ : ∃ z, z = List.zipWith (fun f c => f && hasF set but c) fr rs := ⟨_, rfl⟩
 have hzl : z.length = rs.length := by rw [hz, List.length_zipWith, hlen]; omega
 have HZ : Hid (∀ (k : Nat) (h1 : k < fr.length) (h2 : k < rs.length) (h3 : k < z.length), z[k] = (fr[k] && hasF set but rs[k])) := Lib.hid (fun k h1 h2 h3 => by subst hz; simp)
 have HOne : Hid (oneF set but rs fr = false :: z) := Lib.hid (by rw [hz]; rfl)
 generalize oneF set but rs fr = res at *
 obtain ⟨m, hm⟩ : ∃ m, m = rs.length := ⟨_, rfl⟩
 have Hm := Lib.hid hm
 rw [← hm] at hlen hl6 hzl
 have HLen := Lib.hid hlen
 have HZl := Lib.hid hzl
 have H6 := Lib.hid hl6
 have hfl : fr.length = m + 1 := hlen
 rw [hfl, ← hm]
 have hi0 : (0 : Int) ≤ (i : Int) := by omega
 have hi1 : (i : Int) < (l.length : Int) := by omega
 generalize l.length = ll at *
 generalize hsl : set.length = sl at *
 clear hX hRl hRf hz hzl hm hlen hl6 hfl hil hk hsl hres
 have hmk : ((m + 1 : Nat) : Int) = (m : Int) + 1 := by omega
 go_enter Tryz.func130, Tryz.ntmps130
 go_upto_region 2 with fail
 have HB0 := Lib.hid (balloc (Below.refl w.heap.size w) (.cells #[.int .i64 0, .int .i64 0, .int .i64 0, .slice As sl cs, .bool but] 183))
 have hblk := blk_new w (.cells #[.int .i64 0, .int .i64 0, .int .i64 0, .slice As sl cs, .bool but] 183)
 have hnb : w.heap.size < (w.alloc (.cells #[.int .i64 0, .int .i64 0, .int .i64 0, .slice As sl cs, .bool but] 183)).heap.size := by rw [show (w.alloc (.cells #[.int .i64 0, .int .i64 0, .int .i64 0, .slice As sl cs, .bool but] 183)).heap.size = w.heap.size + 1 from Array.size_push _]; omega
 have n0 : (w.alloc (.cells #[.int .i64 0, .int .i64 0, .int .i64 0, .slice As sl cs, .bool but] 183)).cell? ⟨w.heap.size, 0, none⟩ = some (.int .i64 0) := by simp
 generalize w.alloc (.cells #[.int .i64 0, .int .i64 0, .int .i64 0, .slice As sl cs, .bool but] 183) = w1 at *
 have HBlk := Lib.hid hblk
 have HNb := Lib.hid hnb
 clear hblk hnb z0 z1 z2 z3 z4 c3
 go_wp2_with (at_make; refine wpList_make_full _ rfl _ _ 175 rfl w1.heap.size 4 i0 _ 1 Tryz.underlying175 hi hz0 hz1 .i64 .i64 _ _ (m + 1) rfl rfl rfl rfl (by rw [hz2]; have := H6.out; omega) (by have := H6.out; simp only [maxLen]; omega) (Nat.le_refl _) ?_; intro w2 hO hg; rw [made_bool, ← one_zero z] at hO; have HO := Lib.hid hO; have HB1 := Lib.hid (grown_below hg); have n1 := later (grown_below hg) n0; clear hO hg)
 clear n0 n1
 go_loopw [106] (fun i wr => ∃ k : Nat, k ≤ m ∧ i = .int .i64 k ∧ wr.ownsRow w1.heap.size 4 1 (.slice (some ⟨w1.heap.size, 0, none⟩) (m + 1) (m + 1)) (m + 1) ((onePart z m k).map Value.bool) ∧ Below w1.heap.size w1 wr) (fun i _ => m - (intOf i).toNat)
 case atStart => exact ⟨0, Nat.zero_le _, rfl, HO.out, HB1.out⟩
 case round =>
  obtain ⟨k, hk, rfl, hO, hB⟩ := hrel
  have HOr := Lib.hid hO
  have HBr := Lib.hid hB
  by_cases hlt : k < m
  ·have hkl : k < rs.length := by rw [← Hm.out]; exact hlt
   have hkf : k < fr.length := by rw [HLen.out]; omega
   have hkz : k < z.length := by rw [HZl.out]; exact hlt
   have hBw : Below w.heap.size w wr := bthen HB0.out hB
   obtain ⟨lb, lo, el, y1⟩ := rd1 (f := Value.int .i32) (HRd1.out wr hBw) hkl
   subst el
   obtain ⟨fb, fo, ef, y2⟩ := rd1 (f := Value.bool) (HRd2.out wr hBw) hkf
   subst ef
   obtain ⟨fb', fo', ef', y2'⟩ := rd1 (f := Value.bool) (HRd2.out w (Below.refl _ _)) hkf
   injection ef' with ef'
   injection ef' with ef1 ef2
   subst ef1; subst ef2
   have NFb : Hid (¬ w1.heap.size = fb) := Lib.hid (by have := blk_of_cell y2'; have := HNb.out; omega)
   clear y2'
   have y3 := own_b hO (onep_len HZl.out (by omega)).symm (one_get HZl.out hlt)
   have f3 : wr.frozen? ⟨w1.heap.size, k + 1, none⟩ = false := own_free hO
   have hzk := HZ.out k hkf hkl hkz
   have hset := one_set HZl.out hlt
   have hsum : IntKind.i64.wrap ((k : Int) + 1) = (k : Int) + 1 := IntWalk.i64_in _ (by have := H6.out; omega)
   have hi0 : (0 : Int) ≤ (k : Int) := by omega
   have hi1 : (k : Int) < (m : Int) := by omega
   have hi2 : (k : Int) < ((m + 1 : Nat) : Int) := by omega
   have hi3 : (k : Int) + 1 < ((m + 1 : Nat) : Int) := by omega
   have hi4 : (0 : Int) ≤ (k : Int) + 1 := by omega
   have hi5 : (k : Int) < (m : Int) + 1 := by omega
   have hi6 : (k : Int) + 1 < (m : Int) + 1 := by omega
   have hi7 : k < m + 1 := by omega
   have HHk := Lib.hid (HHas.out rs[k])
   have hbk := blk_below HBlk.out hB
   have m0 := blk_cell hbk 0
   have m1 := blk_cell hbk 1
   have m2 := blk_cell hbk 2
   have m3 := blk_cell hbk 3
   have m4 := blk_cell hbk 4
   simp at m0 m1 m2 m3 m4
   generalize rs[k] = c at *
   generalize fr[k] = fb1 at *
   generalize z[k] = zk at *
   have HSet := Lib.hid hset
   have HZk := Lib.hid hzk
   have HBw := Lib.hid hBw
   clear hO hB hkl hkf hkz hset hzk hbk hBw
   go_upto_region 26 with fail
   have d1 : wr.drew.cell? ⟨lb, lo + k, none⟩ = some (.int .i32 c) := y1
   have d2 : wr.drew.cell? ⟨fb, fo + k, none⟩ = some (.bool fb1) := y2
   have d3 : wr.drew.cell? ⟨w1.heap.size, k + 1, none⟩ = some (.bool false) := y3
   have d4 : wr.drew.frozen? ⟨w1.heap.size, k + 1, none⟩ = false := f3
   have e0 : wr.drew.cell? ⟨w.heap.size, 0, none⟩ = some (.int .i64 0) := m0
   have e1 : wr.drew.cell? ⟨w.heap.size, 1, none⟩ = some (.int .i64 0) := m1
   have e2 : wr.drew.cell? ⟨w.heap.size, 2, none⟩ = some (.int .i64 0) := m2
   have e3 : wr.drew.cell? ⟨w.heap.size, 3, none⟩ = some (.slice As sl cs) := m3
   have e4 : wr.drew.cell? ⟨w.heap.size, 4, none⟩ = some (.bool but) := m4
   have HOd : Hid (wr.drew.ownsRow w1.heap.size 4 1 (.slice (some ⟨w1.heap.size, 0, none⟩) (m + 1) (m + 1)) (m + 1) ((onePart z m k).map Value.bool)) := Lib.hid (own_below HOr.out (bdrew (Below.refl _ _)))
   have HBd := Lib.hid (bthen HBr.out (bdrew (Below.refl _ _)))
   have HBwd := Lib.hid (bthen HBw.out (bdrew (Below.refl _ _)))
   clear y1 y2 y3 f3 m0 m1 m2 m3 m4
   cases fb1 with
   | false =>
    have hz0' : zk = false := by rw [HZk.out]; rfl
    have hO2 := own_set1 (k := k + 1) (u := .bool false) HOd.out (by omega)
    rw [← List.map_set, ← hz0', HSet.out] at hO2
    have HO2 : Hid ((wr.drew.setCell ⟨w1.heap.size, k + 1, none⟩ (.bool false)).ownsRow w1.heap.size 4 1 (.slice (some ⟨w1.heap.size, 0, none⟩) (m + 1) (m + 1)) (m + 1) ((onePart z m (k + 1)).map Value.bool)) := Lib.hid (by rw [hz0'] at hO2; exact hO2)
    have HB2 : Hid (Below w1.heap.size w1 (wr.drew.setCell ⟨w1.heap.size, k + 1, none⟩ (.bool false))) := Lib.hid (below_cell HBd.out (Nat.le_refl _) _ _)
    clear hO2 hz0'
    refine wp_region_held_drew (S := fun w' => w'.cell? ⟨fb, fo + k, none⟩ = some (.bool false)) (by kernel_rfl) d2 (fun hHeld => ?_)
    refine wpAnyH_take (i := 0) (oi := ⟨some 109, _, _, _, _, _⟩) (v := ?_) rfl (by kernel_rfl) (by kernel_rfl) (by kernel_rfl) (fun _ _ _ h => h) (Or.inl ⟨by rfl, fun w hSw => ?_⟩) (by assumption) ?_
    rotate_left 1
    ·(try dsimp only at hSw); go_simp; try with_reducible rfl
    try simp only [Act.put, List.setIfInBounds_toArray, List.set_cons_zero, List.set_cons_succ]
    refine wpAnyH_take (i := 1) (oi := ⟨some 110, _, _, _, _, _⟩) (v := ?_) rfl (by kernel_rfl) (by kernel_rfl) (by kernel_rfl) (fun _ _ _ h => h) (Or.inl ⟨by rfl, fun w hSw => ?_⟩) (by assumption) ?_
    rotate_left 1
    ·(try dsimp only at hSw); go_simp; try with_reducible rfl
    try simp only [Act.put, List.setIfInBounds_toArray, List.set_cons_zero, List.set_cons_succ]
    refine wpAnyH_take (i := 2) (oi := ⟨some 111, _, _, _, _, _⟩) (v := ?_) rfl (by kernel_rfl) (by kernel_rfl) (by kernel_rfl) (fun _ _ _ h => h) (Or.inl ⟨by rfl, fun w hSw => ?_⟩) (by assumption) ?_
    rotate_left 1
    ·(try dsimp only at hSw); go_simp; try with_reducible rfl
    try simp only [Act.put, List.setIfInBounds_toArray, List.set_cons_zero, List.set_cons_succ]
    refine wpAnyH_take (i := 3) (oi := ⟨some 112, _, _, _, _, _⟩) (v := ?_) rfl (by kernel_rfl) (by kernel_rfl) (by kernel_rfl) (fun _ _ _ h => h) (Or.inl ⟨by rfl, fun w hSw => ?_⟩) (by assumption) ?_
    rotate_left 1
    ·(try dsimp only at hSw); go_simp; try with_reducible rfl
    try simp only [Act.put, List.setIfInBounds_toArray, List.set_cons_zero, List.set_cons_succ]
    refine wpAnyH_take (i := 4) (oi := ⟨some 113, _, _, _, _, _⟩) (v := ?_) rfl (by kernel_rfl) (by kernel_rfl) (by kernel_rfl) (fun _ _ _ h => h) (Or.inl ⟨by rfl, fun w hSw => ?_⟩) (by assumption) ?_
    rotate_left 1
    ·(try dsimp only at hSw); go_simp; try with_reducible rfl
    try simp only [Act.put, List.setIfInBounds_toArray, List.set_cons_zero, List.set_cons_succ]
    refine wpAnyH_take (i := 5) (oi := ⟨some 114, _, _, _, _, _⟩) (v := ?_) rfl (by kernel_rfl) (by kernel_rfl) (by kernel_rfl) (fun _ _ _ h => h) (Or.inl ⟨by rfl, fun w hSw => ?_⟩) (by assumption) ?_
    rotate_left 1
    ·(try dsimp only at hSw); go_simp; try with_reducible rfl
    try simp only [Act.put, List.setIfInBounds_toArray, List.set_cons_zero, List.set_cons_succ]
    refine wpAnyH_take (i := 6) (oi := ⟨some 115, _, _, _, _, _⟩) (v := ?_) rfl (by kernel_rfl) (by kernel_rfl) (by kernel_rfl) (fun _ _ _ h => h) (Or.inl ⟨by rfl, fun w hSw => ?_⟩) (by assumption) ?_
    rotate_left 1
    ·(try dsimp only at hSw); go_simp; try with_reducible rfl
    try simp only [Act.put, List.setIfInBounds_toArray, List.set_cons_zero, List.set_cons_succ]
    refine wpAnyH_take (i := 7) (oi := ⟨some 116, _, _, _, _, _⟩) (v := ?_) rfl (by kernel_rfl) (by kernel_rfl) (by kernel_rfl) (fun _ _ _ h => h) (Or.inl ⟨by rfl, fun w hSw => ?_⟩) (by assumption) ?_
    rotate_left 1
    ·(try dsimp only at hSw); go_simp; try with_reducible rfl
    try simp only [Act.put, List.setIfInBounds_toArray, List.set_cons_zero, List.set_cons_succ]
    refine wpAnyH_take (i := 8) (oi := ⟨some 117, _, _, _, _, _⟩) (v := undef) rfl (by kernel_rfl) (by kernel_rfl) (by kernel_rfl) (fun _ _ _ h => h) (Or.inr ⟨by rfl, rfl⟩) (by assumption) ?_
    try simp only [Act.put, List.setIfInBounds_toArray, List.set_cons_zero, List.set_cons_succ]
    refine wpAnyH_take (i := 9) (oi := ⟨some 118, _, _, _, _, _⟩) (v := undef) rfl (by kernel_rfl) (by kernel_rfl) (by kernel_rfl) (fun _ _ _ h => h) (Or.inr ⟨by rfl, rfl⟩) (by assumption) ?_
    try simp only [Act.put, List.setIfInBounds_toArray, List.set_cons_zero, List.set_cons_succ]
    refine wpAnyH_take (i := 10) (oi := ⟨some 119, _, _, _, _, _⟩) (v := undef) rfl (by kernel_rfl) (by kernel_rfl) (by kernel_rfl) (fun _ _ _ h => h) (Or.inr ⟨by rfl, rfl⟩) (by assumption) ?_
    try simp only [Act.put, List.setIfInBounds_toArray, List.set_cons_zero, List.set_cons_succ]
    refine wpAnyH_take (i := 11) (oi := ⟨some 120, _, _, _, _, _⟩) (v := undef) rfl (by kernel_rfl) (by kernel_rfl) (by kernel_rfl) (fun _ _ _ h => h) (Or.inr ⟨by rfl, rfl⟩) (by assumption) ?_
    try simp only [Act.put, List.setIfInBounds_toArray, List.set_cons_zero, List.set_cons_succ]
    refine wpAnyH_take (i := 12) (oi := ⟨some 121, _, _, _, _, _⟩) (v := undef) rfl (by kernel_rfl) (by kernel_rfl) (by kernel_rfl) (fun _ _ _ h => h) (Or.inr ⟨by rfl, rfl⟩) (by assumption) ?_
    try simp only [Act.put, List.setIfInBounds_toArray, List.set_cons_zero, List.set_cons_succ]
    refine wpAnyH_take (i := 13) (oi := ⟨some 122, _, _, _, _, _⟩) (v := undef) rfl (by kernel_rfl) (by kernel_rfl) (by kernel_rfl) (fun _ _ _ h => h) (Or.inr ⟨by rfl, rfl⟩) (by assumption) ?_
    try simp only [Act.put, List.setIfInBounds_toArray, List.set_cons_zero, List.set_cons_succ]
    refine wpAnyH_take (i := 14) (oi := ⟨some 123, _, _, _, _, _⟩) (v := ?_) rfl (by kernel_rfl) (by kernel_rfl) (by kernel_rfl) (fun _ _ _ h => h) (Or.inl ⟨by rfl, fun w hSw => ?_⟩) (by assumption) ?_
    rotate_left 1
    ·(try dsimp only at hSw); go_simp; try with_reducible rfl
    try simp only [Act.put, List.setIfInBounds_toArray, List.set_cons_zero, List.set_cons_succ]
    refine wpAnyH_take (i := 15) (oi := ⟨some 124, _, _, _, _, _⟩) (v := ?_) rfl (by kernel_rfl) (by kernel_rfl) (by kernel_rfl) (fun _ _ _ h => h) (Or.inl ⟨by rfl, fun w hSw => ?_⟩) (by assumption) ?_
    rotate_left 1
    ·(try dsimp only at hSw); go_simp; try with_reducible rfl
    try simp only [Act.put, List.setIfInBounds_toArray, List.set_cons_zero, List.set_cons_succ]
    refine wpAnyH_ready (rs := [16]) (by kernel_rfl) (by simp) ?_
    refine AllReadyH.cons (o := ⟨none, _, _, _, _, _⟩) rfl (fun K hK => ?_) AllReadyH.nil
    go_simp
    refine hK.out _ _ ((World.cell?_setCell_other _ _ _ _ (by intro e; injection e with e; exact NFb.out e)).trans d2) (fun hHeld2 => ?_)
    clear hK K hHeld
    try simp only [Act.put, List.setIfInBounds_toArray, List.set_cons_zero, List.set_cons_succ]
    refine wpAnyH_done (by kernel_rfl) ?_ _
    clear hHeld2
    go_wp2_with fail
    go_roundw
    case rel => exact ⟨k + 1, by omega, by go_num, HO2.out, HB2.out⟩
    case measure => simp [intOf] <;> omega
   | true =>
    have hz0' : zk = hasF set but c := by rw [HZk.out]; simp
    have HHc := Lib.hid (HHk.out wr.drew HBwd.out)
    generalize hasF set but c = hb at *
    subst hz0'
    go_region_law (first | (go_simp; go_at_call 145; refine HHc.out.mono ?_; rintro e w5 ⟨rfl, hb5⟩; have q3 := later hb5 d3; have q4 : w5.frozen? ⟨w1.heap.size, k + 1, none⟩ = false := own_free (own_below HOd.out hb5)))
    all_goals
     have HO5 := Lib.hid (own_below HOd.out hb5)
     have HB5 := Lib.hid (bthen HBd.out hb5)
     have hO2 := own_set1 (k := k + 1) (u := .bool zk) HO5.out (by omega)
     rw [← List.map_set, HSet.out] at hO2
     have HO2 := Lib.hid hO2
     have HB2 : Hid (Below w1.heap.size w1 (w5.setCell ⟨w1.heap.size, k + 1, none⟩ (.bool zk))) := Lib.hid (below_cell HB5.out (Nat.le_refl _) _ _)
     clear hO2 hb5 q3 q4
     go_wp2_with fail
     go_roundw
     case rel => exact ⟨k + 1, by omega, by go_num, HO2.out, HB2.out⟩
     case measure => simp [intOf] <;> omega
  ·have hkm : k = m := by omega
   subst hkm
   rw [one_all HZl.out] at hO
   have HFin : Hid (wr.ownsRow w.heap.size 4 1 (.slice (some ⟨w1.heap.size, 0, none⟩) (k + 1) (k + 1)) res.length (res.map Value.bool)) := Lib.hid (by rw [HOne.out, List.length_cons, HZl.out]; exact own_shift hO HB0.out.size)
   clear hO hB
   go_wp2_with fail
   go_ret
   exact ⟨_, rfl, bthen HB0.out HBr.out, HFin.out⟩
end Go.Proofs.YtlhmdgaohonpbaaGreatDoor

namespace Go.Proofs.YtlhmdgaohonpbaaGreatDoor
open Go.RowKit Go.Proofs.YtlhmdgaohonpbaaGreatDoor.MapRaw Go.ChangeMaps
def partB (z : List Bool) (m k : Nat) : List Bool := z.take k ++ List.replicate (m - k) false
theorem part_zero (z : List Bool) (m : Nat) : partB z m 0 = List.replicate m false := by unfold partB; simp
theorem part_all {z : List Bool} {m : Nat} (h : z.length = m) : partB z m m = z := by unfold partB; rw [List.take_of_length_le (by omega)]; simp
theorem part_len {z : List Bool} {m : Nat} (h : z.length = m) {k : Nat} (hk : k ≤ m) : (partB z m k).length = m := by unfold partB; simp [h]; omega
theorem part_get {z : List Bool} {m : Nat} (h : z.length = m) {k : Nat} (hk : k < m) : (partB z m k)[k]? = some false := by
 unfold partB
 rw [List.getElem?_append_right (by rw [List.length_take]; omega), List.length_take, Nat.min_eq_left (by omega), Nat.sub_self, List.getElem?_replicate]
 rw [if_pos (by omega)]
theorem part_set {z : List Bool} {m : Nat} (h : z.length = m) {k : Nat} (hk : k < m) : (partB z m k).set k (z[k]'(by omega)) = partB z m (k + 1) := by
 unfold partB
 have hl : (z.take k).length = k := by rw [List.length_take]; omega
 rw [List.set_append_right _ _ (by omega), hl, Nat.sub_self, List.take_succ_eq_append_getElem (by omega), List.append_assoc]
 congr 1
 rw [show m - k = (m - (k + 1)) + 1 by omega, List.replicate_succ, List.set_cons_zero]
 rfl
set_option maxRecDepth 100000 in
set_option maxHeartbeats 4000000 in
theorem k_ends_cat {pb : Nat} {lv : Value} {top : Int} {l : List Nc} {i a b : Nat} {x y : Nd} (hk : (l.map Nc.key)[i]? = some ⟨1, a, b, [], false⟩) (hA : DEnds pb lv top l a x) (hB : DEnds pb lv top l b y) : DEnds pb lv top l i (.cat x y) := by
 intro w D1 D2 rv fv rs fr hX hr hf hlen hl6
 obtain ⟨nb, off, c, sv, rfl, c3, hil, z0, z1, z2, z3, z4, hsv⟩ := xat_node hX hk
 have hxl := endsN_len x rs hlen
 have hyl := endsN_len y rs hlen
 have HX := Lib.hid hX
 have HR := Lib.hid hr
 have HF := Lib.hid hf
 have HLn := Lib.hid hlen
 have H6 := Lib.hid hl6
 have HXl := Lib.hid hxl
 have HYl := Lib.hid hyl
 have HRes : Hid (endsN (.cat x y) rs fr = endsN y rs (endsN x rs fr)) := Lib.hid rfl
 generalize endsN (.cat x y) rs fr = res at *
 obtain ⟨As, cs, rfl, -⟩ := hsv
 obtain ⟨i0, hi, hz0, hz1, hz2⟩ := info_parts info_bool
 obtain ⟨A4, c4, rfl, -⟩ := id hf
 obtain ⟨A3, c3', rfl, -⟩ := id hr
 have hi0 : (0 : Int) ≤ (i : Int) := by omega
 have hi1 : (i : Int) < (l.length : Int) := by omega
 have hn6 : fr.length ≤ 1000001 := by omega
 have Hn6 := Lib.hid hn6
 have HCA := Lib.hid hA
 have HCB := Lib.hid hB
 generalize hll : l.length = ll at *
 simp only [List.length_nil] at z3
 clear hX hr hf hlen hl6 hil hk hxl hyl hA hB hn6 hll
 go_enter Tryz.func130, Tryz.ntmps130
 go_upto_region 2 with fail
 have HB0 := Lib.hid (balloc (Below.refl w.heap.size w) (.cells #[.int .i64 1, .int .i64 a, .int .i64 b, .slice As 0 cs, .bool false] 183))
 have hblk := blk_new w (.cells #[.int .i64 1, .int .i64 a, .int .i64 b, .slice As 0 cs, .bool false] 183)
 have n0 : (w.alloc (.cells #[.int .i64 1, .int .i64 a, .int .i64 b, .slice As 0 cs, .bool false] 183)).cell? ⟨w.heap.size, 0, none⟩ = some (.int .i64 1) := by simp
 generalize w.alloc (.cells #[.int .i64 1, .int .i64 a, .int .i64 b, .slice As 0 cs, .bool false] 183) = w1 at *
 have HBlk := Lib.hid hblk
 clear hblk z0 z1 z2 z3 z4 c3
 go_wp2_with (at_make; refine wpList_make_full _ rfl _ _ 175 rfl w1.heap.size 4 i0 _ 1 Tryz.underlying175 hi hz0 hz1 .i64 .i64 _ _ fr.length rfl rfl rfl rfl (by rw [hz2]; have := Hn6.out; omega) (by have := Hn6.out; simp only [maxLen]; omega) (Nat.le_refl _) ?_; intro w2 hO hg; rw [made_bool] at hO; have HO := Lib.hid hO; have HB2 := Lib.hid (grown_below hg); have n1 := later (grown_below hg) n0; clear hO hg)
 have hbk := blk_below HBlk.out HB2.out
 have m1 := blk_cell hbk 1
 have m2 := blk_cell hbk 2
 simp at m1 m2
 have d1 : w2.drew.cell? ⟨w.heap.size, 1, none⟩ = some (.int .i64 a) := m1
 have d2 : w2.drew.cell? ⟨w.heap.size, 2, none⟩ = some (.int .i64 b) := m2
 have HBd := Lib.hid (bthen HB0.out (bthen HB2.out (bdrew (Below.refl _ _))))
 have HCa := Lib.hid (HCA.out w2.drew _ _ _ _ rs fr (HX.out.below HBd.out) (HR.out.below HBd.out) (HF.out.below HBd.out) HLn.out H6.out)
 clear hbk m1 m2 n0 n1
 have HCb := Lib.hid (fun (W : World) (v : Value) (hW : Below w2.drew.heap.size w2.drew W) (hv : W.ownsRow w2.drew.heap.size 4 1 v (endsN x rs fr).length ((endsN x rs fr).map Value.bool)) => HCB.out W _ _ _ v rs (endsN x rs fr) (HX.out.below (bthen HBd.out hW)) (HR.out.below (bthen HBd.out hW)) (own_b_slc hv) HXl.out H6.out)
 go_region_law (first | (go_simp; go_at_call 130; refine (HCb.out w5 v5 HB5.out HO5.out).mono ?_; rintro e w6 ⟨v6, rfl, hb6, hO6⟩; have HB6 := Lib.hid hb6; have HO6 := Lib.hid hO6; clear hb6 hO6) | (go_simp; go_at_call 130; refine HCa.out.mono ?_; rintro e w5 ⟨v5, rfl, hb5, hO5⟩; have HB5 := Lib.hid hb5; have HO5 := Lib.hid hO5; have k2 := later hb5 d2; clear hb5 hO5))
 all_goals
  go_wp2_with fail
  go_ret
  refine ⟨_, rfl, bthen HBd.out (bthen HB5.out HB6.out), ?_⟩
  rw [HRes.out]
  exact own_shift HO6.out (bthen HBd.out HB5.out).size
set_option maxRecDepth 100000 in
set_option maxHeartbeats 4000000 in
theorem k_ends_alt {pb : Nat} {lv : Value} {top : Int} {l : List Nc} {i a b : Nat} {x y : Nd} (hk : (l.map Nc.key)[i]? = some ⟨2, a, b, [], false⟩) (hA : DEnds pb lv top l a x) (hB : DEnds pb lv top l b y) : DEnds pb lv top l i (.alt x y) := by
 intro w D1 D2 rv fv rs fr hX hr hf hlen hl6
 obtain ⟨nb, off, c, sv, rfl, c3, hil, z0, z1, z2, z3, z4, hsv⟩ := xat_node hX hk
 have hxl := endsN_len x rs hlen
 have hyl := endsN_len y rs hlen
 have HX := Lib.hid hX
 have HR := Lib.hid hr
 have HF := Lib.hid hf
 have HLn := Lib.hid hlen
 have H6 := Lib.hid hl6
 have HXl := Lib.hid hxl
 have HYl := Lib.hid hyl
 have HRes : Hid (endsN (.alt x y) rs fr = joinB (endsN x rs fr) (endsN y rs fr)) := Lib.hid rfl
 generalize endsN (.alt x y) rs fr = res at *
 obtain ⟨As, cs, rfl, -⟩ := hsv
 obtain ⟨i0, hi, hz0, hz1, hz2⟩ := info_parts info_bool
 obtain ⟨A4, c4, rfl, -⟩ := id hf
 obtain ⟨A3, c3', rfl, -⟩ := id hr
 have hi0 : (0 : Int) ≤ (i : Int) := by omega
 have hi1 : (i : Int) < (l.length : Int) := by omega
 have hn6 : fr.length ≤ 1000001 := by omega
 have Hn6 := Lib.hid hn6
 have HCA := Lib.hid hA
 have HCB := Lib.hid hB
 generalize hll : l.length = ll at *
 simp only [List.length_nil] at z3
 clear hX hr hf hlen hl6 hil hk hxl hyl hA hB hn6 hll
 go_enter Tryz.func130, Tryz.ntmps130
 go_upto_region 2 with fail
 have HB0 := Lib.hid (balloc (Below.refl w.heap.size w) (.cells #[.int .i64 2, .int .i64 a, .int .i64 b, .slice As 0 cs, .bool false] 183))
 have hblk := blk_new w (.cells #[.int .i64 2, .int .i64 a, .int .i64 b, .slice As 0 cs, .bool false] 183)
 have n0 : (w.alloc (.cells #[.int .i64 2, .int .i64 a, .int .i64 b, .slice As 0 cs, .bool false] 183)).cell? ⟨w.heap.size, 0, none⟩ = some (.int .i64 2) := by simp
 generalize w.alloc (.cells #[.int .i64 2, .int .i64 a, .int .i64 b, .slice As 0 cs, .bool false] 183) = w1 at *
 have HBlk := Lib.hid hblk
 clear hblk z0 z1 z2 z3 z4 c3
 go_wp2_with (at_make; refine wpList_make_full _ rfl _ _ 175 rfl w1.heap.size 4 i0 _ 1 Tryz.underlying175 hi hz0 hz1 .i64 .i64 _ _ fr.length rfl rfl rfl rfl (by rw [hz2]; have := Hn6.out; omega) (by have := Hn6.out; simp only [maxLen]; omega) (Nat.le_refl _) ?_; intro w2 hO hg; rw [made_bool] at hO; have HO := Lib.hid hO; have HB2 := Lib.hid (grown_below hg); have n1 := later (grown_below hg) n0; clear hO hg)
 have hbk := blk_below HBlk.out HB2.out
 have m1 := blk_cell hbk 1
 have m2 := blk_cell hbk 2
 simp at m1 m2
 have d1 : w2.drew.cell? ⟨w.heap.size, 1, none⟩ = some (.int .i64 a) := m1
 have d2 : w2.drew.cell? ⟨w.heap.size, 2, none⟩ = some (.int .i64 b) := m2
 have HBd := Lib.hid (bthen HB0.out (bthen HB2.out (bdrew (Below.refl _ _))))
 have HCa := Lib.hid (HCA.out w2.drew _ _ _ _ rs fr (HX.out.below HBd.out) (HR.out.below HBd.out) (HF.out.below HBd.out) HLn.out H6.out)
 clear hbk m1 m2 n0 n1
 have HCb := Lib.hid (fun (W : World) (hW : Below w2.drew.heap.size w2.drew W) => HCB.out W _ _ _ _ rs fr (HX.out.below (bthen HBd.out hW)) (HR.out.below (bthen HBd.out hW)) (HF.out.below (bthen HBd.out hW)) HLn.out H6.out)
 obtain ⟨z, hz⟩ : ∃ z, z = joinB (endsN x rs fr) (endsN y rs fr) := ⟨_, rfl⟩
 have hzl : z.length = fr.length := by rw [hz, join_len (HYl.out.trans HXl.out.symm), HXl.out, HLn.out]
 have HZ : Hid (∀ (k : Nat) (h1 : k < (endsN x rs fr).length) (h2 : k < (endsN y rs fr).length) (h3 : k < z.length), z[k] = ((endsN x rs fr)[k] || (endsN y rs fr)[k])) := Lib.hid (fun k h1 h2 h3 => by subst hz; simp [joinB])
 have HRz : Hid (res = z) := Lib.hid (by rw [HRes.out, hz])
 have HZl := Lib.hid hzl
 have HXn : Hid ((endsN x rs fr).length = fr.length) := Lib.hid (by rw [HXl.out, HLn.out])
 have HYn : Hid ((endsN y rs fr).length = fr.length) := Lib.hid (by rw [HYl.out, HLn.out])
 rw [← part_zero z] at HO
 generalize endsN x rs fr = ra at *
 generalize endsN y rs fr = rb at *
 clear hz hzl
 go_region_law (first | (go_simp; go_at_call 130; refine (HCb.out w5 HB5.out).mono ?_; rintro e w6 ⟨v6, rfl, hb6, hO6⟩; have HB6 := Lib.hid hb6; have HO6 := Lib.hid hO6; clear hb6 hO6) | (go_simp; go_at_call 130; refine HCa.out.mono ?_; rintro e w5 ⟨v5, rfl, hb5, hO5⟩; have HB5 := Lib.hid hb5; have HO5 := Lib.hid hO5; have k1 := later hb5 d1; have k2 := later hb5 d2; clear hb5 hO5))
 all_goals
  have HOo : Hid (w6.ownsRow w1.heap.size 4 1 (.slice (some ⟨w1.heap.size, 0, none⟩) fr.length fr.length) fr.length ((partB z fr.length 0).map Value.bool)) := Lib.hid (own_below (own_below (own_below HO.out (bdrew (Below.refl _ _))) HB5.out) HB6.out)
  have HBo := Lib.hid (bthen (bthen (bthen HB2.out (bdrew (Below.refl _ _))) HB5.out) HB6.out)
  have hsa := (own_b_slc HO5.out).below HB6.out
  have hsb := own_b_slc HO6.out
  obtain ⟨Aa, ca, rfl, -, -, -, hDa, hRa⟩ := hsa
  obtain ⟨Ab, cb, rfl, -, -, -, hDb, hRb⟩ := hsb
  have HDa : Hid (∀ (bb oo : Nat), Aa = some ⟨bb, oo, none⟩ → w1.heap.size < bb) := Lib.hid (fun bb oo e => by
   have h1 := (hDa _ e (fun e2 => by have := HXn.out; rw [e2] at this; have := HLn.out; simp at *; omega)).2.1
   have h2 := (ownsRow_blk HO.out w1.heap.size rfl).2
   have h3 : w2.drew.heap.size = w2.heap.size := rfl
   simp only at h1
   omega)
  have HDb : Hid (∀ (bb oo : Nat), Ab = some ⟨bb, oo, none⟩ → w1.heap.size < bb) := Lib.hid (fun bb oo e => by
   have h1 := (hDb _ e (fun e2 => by have := HYn.out; rw [e2] at this; have := HLn.out; simp at *; omega)).2.1
   have h2 := (ownsRow_blk HO.out w1.heap.size rfl).2
   have h3 : w2.drew.heap.size = w2.heap.size := rfl
   have h4 := HB5.out.size
   simp only at h1
   omega)
  have HRa := Lib.hid hRa
  have HRb := Lib.hid hRb
  rw [HXn.out, HYn.out]
  clear hRa hRb hDa hDb
  have HBw6 := Lib.hid (bthen HB0.out HBo.out)
  have hn9 : fr.length ≤ 9223372036854775807 := by have := Hn6.out; omega
  generalize fr.length = n at *
  go_wp2_with fail
  go_loopw [160] (fun i wr => ∃ k : Nat, k ≤ n ∧ i = .int .i64 k ∧ wr.ownsRow w1.heap.size 4 1 (.slice (some ⟨w1.heap.size, 0, none⟩) n n) n ((partB z n k).map Value.bool) ∧ Apart (fun j => j = w1.heap.size) w6 wr) (fun i _ => n - (intOf i).toNat)
  case atStart => exact ⟨0, Nat.zero_le _, rfl, HOo.out, Apart.refl _ _⟩
  case round =>
   obtain ⟨k, hk, rfl, hO, hA⟩ := hrel
   have HOr := Lib.hid hO
   have HAr := Lib.hid hA
   by_cases hlt : k < n
   ·have hka : k < ra.length := by rw [HXn.out]; exact hlt
    have hkb : k < rb.length := by rw [HYn.out]; exact hlt
    have hkz : k < z.length := by rw [HZl.out]; exact hlt
    obtain ⟨ab, ao, ea, y1⟩ := rd1 (f := Value.bool) HRa.out hka
    obtain ⟨bb, bo, eb, y2⟩ := rd1 (f := Value.bool) HRb.out hkb
    have h1 := HDa.out ab ao ea
    have h2 := HDb.out bb bo eb
    subst ea
    subst eb
    have q1 := hA.cell (show ¬ ab = w1.heap.size by omega) y1
    have q2 := hA.cell (show ¬ bb = w1.heap.size by omega) y2
    have q3 := own_b hO (part_len HZl.out (by omega)).symm (part_get HZl.out hlt)
    have f3 : wr.frozen? ⟨w1.heap.size, k, none⟩ = false := own_free hO
    have hzk := HZ.out k hka hkb hkz
    have hset := part_set HZl.out hlt
    have hi0 : (0 : Int) ≤ (k : Int) := by omega
    have hi1 : (k : Int) < (n : Int) := by omega
    generalize ra[k] = xa at *
    generalize rb[k] = xb at *
    generalize z[k] = zk at *
    have hO2 := own_set1 (k := k) (u := .bool zk) hO hlt
    rw [← List.map_set, hset] at hO2
    have HO2 := Lib.hid hO2
    have HA2 := Lib.hid (hA.setC ⟨w1.heap.size, k, none⟩ (.inl rfl) (.bool zk))
    subst hzk
    clear hO hA hka hkb hkz hset hO2 y1 y2 h1 h2
    cases xa with
    | true =>
     go_wp2_with fail
     go_roundw
     case rel => exact ⟨k + 1, by omega, by go_num, HO2.out, HA2.out⟩
     case measure => simp [intOf] <;> omega
    | false =>
     go_wp2_with fail
     go_roundw
     case rel => exact ⟨k + 1, by omega, by go_num, HO2.out, HA2.out⟩
     case measure => simp [intOf] <;> omega
   ·have hkm : k = n := by omega
    subst hkm
    rw [part_all HZl.out] at hO
    have HFin : Hid (wr.ownsRow w.heap.size 4 1 (.slice (some ⟨w1.heap.size, 0, none⟩) k k) res.length (res.map Value.bool)) := Lib.hid (by rw [HRz.out, HZl.out]; exact own_shift hO HB0.out.size)
    have HBf := Lib.hid (ap_below HBw6.out (hA.mono (fun j hj e => by have := HB0.out.size; omega)))
    clear hO hA
    go_wp2_with fail
    go_ret
    exact ⟨_, rfl, HBf.out, HFin.out⟩
end Go.Proofs.YtlhmdgaohonpbaaGreatDoor
