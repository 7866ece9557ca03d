import Derived.Test.YtlhmdgaohonpbaaGreatDoorGSoA
import Derived.Shelf.RegionOpenPlain
import Derived.WalkKit
import Derived.Deep.LoopGhost
import Derived.Deep.Draws
import Derived.Lib.Walk
import Derived.Sort.WalkB12
import Derived.Sort.EncStr
import Derived.Lib.SliceRun
import Derived.Lib.SlicesS
import Derived.Lib.SlicesCompact
import Derived.Lib.SlicesSearch
import Derived.Test.YtlhmdgaohonpbaaGreatDoorGPi
import Derived.Lib.AppendZerosOnto
import Derived.Laws.Append
import Derived.LoopN
set_option linter.unusedSimpArgs false
set_option linter.unusedVariables false
set_option linter.unusedSectionVars false
namespace Go.Proofs.YtlhmdgaohonpbaaGreatDoor.Srt
open Go.Shelf Go.RowKit Go.Lib Go.Sort Go.Proofs
theorem store_world_u64 {w wr : World} {n blk off : Nat} {dk : Array Int} {i : Nat} (hi : i < dk.size) (hwr : wr = putRow (Value.int .u64) (Sort.ahead w n) blk off dk) (x : Int) :
  (wr.setCell ⟨blk, off + i, none⟩ ((Value.int .u64) x)).drew = putRow (Value.int .u64) (Sort.ahead w (n + 1)) blk off (dk.setIfInBounds i x) := by
 subst hwr
 rw [putRow_set (Value.int .u64) _ blk off dk i x hi, ← ahead_drew]
 rfl
set_option maxHeartbeats 4000000 in
set_option maxRecDepth 1000000 in
theorem compact_u64_arr (blk off cap : Nat) (d : Array Int) (w : World) (hH : Holds (Value.int .u64) w blk off d) (hsz : d.size ≤ 9223372036854775807) (hcap : d.size ≤ cap) :
  Calls Tryz.prog 81 #[.slice (some ⟨blk, off, none⟩) d.size cap] w fun e w' => e = .returned (.slice (some ⟨blk, off, none⟩) (compactUpTo d d.size).length cap) ∧ ∃ q, w' = putRow (Value.int .u64) (Sort.ahead w q) blk off (compactUpTo d d.size ++ List.replicate (d.size - (compactUpTo d d.size).length) 0).toArray := by
 have same : ∀ q, (∀ j, j < d.size → keeps d j = true) → (compactUpTo d d.size).length = d.size ∧ w.drewN q = putRow (Value.int .u64) (Sort.ahead w q) blk off (compactUpTo d d.size ++ List.replicate (d.size - (compactUpTo d d.size).length) 0).toArray := by
  intro q hall
  have e : compactUpTo d d.size = d.toList := by rw [compactUpTo_all d _ hall, range_map_get]
  rw [e]
  refine ⟨by simp, ?_⟩
  simp only [Array.length_toList, Nat.sub_self, List.replicate_zero, List.append_nil, Array.toArray_toList]
  exact (putRow_self (Value.int .u64) (Sort.ahead w q) blk off d (holds_ahead (Value.int .u64) w q blk off d hH)).symm
 have mixed : Tryz.prog.follows Departure.mixedOrders = true := by rfl
 have HS : Aside (∀ q, (∀ j, j < d.size → keeps d j = true) → (compactUpTo d d.size).length = d.size ∧ w.drewN q = putRow (Value.int .u64) (Sort.ahead w q) blk off (compactUpTo d d.size ++ List.replicate (d.size - (compactUpTo d d.size).length) 0).toArray) := same
 clear same
 by_cases h2 : d.size < 2
 ·have HH : Aside (Holds (Value.int .u64) w blk off d) := hH
  clear hH
  go_enter Tryz.func81, Tryz.ntmps81
  go_wp2
  go_ret
  obtain ⟨e1, e2⟩ := HS.out 0 (fun j hj => keeps_lt_one d j (by omega))
  exact ⟨by rw [e1]; rfl, 0, e2⟩
 ·go_enter Tryz.func81, Tryz.ntmps81
  go_wp2
  go_loopg [3] d.size (fun g s3 wr => ∃ k q : Nat, 1 ≤ k ∧ k ≤ d.size ∧ d.size - k ≤ g ∧ s3 = .int .i64 k ∧ wr = w.drewN q ∧ ∀ j, j < k → keeps d j = true)
  case atStart => exact ⟨1, 0, Nat.le_refl _, by omega, by omega, rfl, rfl, keeps_lt_one d⟩
  case round =>
   obtain ⟨k, q, hk1, hk, hg, rfl, rfl, hall⟩ := hrel
   by_cases hlt : k < d.size
   ·obtain ⟨c1, f1⟩ := hH k hlt
    obtain ⟨c0, f0⟩ := hH (k - 1) (by omega)
    have A : Aside (∀ j, j < k → keeps d j = true) := hall
    have HH : Aside (Holds (Value.int .u64) w blk off d) := hH
    clear hall hH
    generalize hx : d[k]! = x at c1
    generalize hy : d[k - 1]! = y at c0
    have B : Aside (d[k]! = x ∧ d[k - 1]! = y) := ⟨hx, hy⟩
    clear hx hy
    by_cases hdup : x = y
    ·subst hdup
     go_wp2_with fail
     go_region_o
     go_wp2
     clear c0 c1 f0 f1
     go_loopg [3, 5] d.size (fun g s3 s5 wr => ∃ (kk k2 q2 : Nat) (dk : Array Int), s3 = .int .i64 kk ∧ s5 = .int .i64 k2 ∧ 1 ≤ k2 ∧ k + k2 ≤ d.size ∧ d.size - (k + k2) ≤ g ∧ wr = putRow (Value.int .u64) (Sort.ahead w q2) blk off dk ∧ CompInv d (k + k2) kk dk)
     case atStart => exact ⟨k, 1, q + 1, d, rfl, rfl, Nat.le_refl _, by omega, by omega, (putRow_self (Value.int .u64) (Sort.ahead w (q + 1)) blk off d (holds_ahead (Value.int .u64) w (q + 1) blk off d HH.out)).symm, CompInv.start A.out (keeps_neg (by omega) (by rw [B.out.1, B.out.2]))⟩
     case round =>
      obtain ⟨kk, k2, q2, dk, rfl, rfl, h1, hle, hg2, hwr, hI⟩ := hrel
      have hkk := hI.lt
      have hds := hI.size
      have hHk : Holds (Value.int .u64) wr blk off dk := by rw [hwr]; exact holds_putRow (Value.int .u64) _ blk off d dk (holds_ahead (Value.int .u64) w q2 blk off d HH.out) hds
      have W2 : Aside (wr = putRow (Value.int .u64) (Sort.ahead w q2) blk off dk) := hwr
      have I2 : Aside (CompInv d (k + k2) kk dk) := hI
      clear hwr
      by_cases hlt2 : k + k2 < d.size
      ·obtain ⟨cm, _⟩ := hHk (k + k2) (by omega)
       obtain ⟨cp, _⟩ := hHk (k + k2 - 1) (by omega)
       obtain ⟨ck, fk⟩ := hHk kk (by omega)
       rw [hI.high (k + k2) (by omega), show off + (k + k2) = off + k + k2 by omega] at cm
       rw [hI.high (k + k2 - 1) (by omega), show off + (k + k2 - 1) = off + k + (k2 - 1) by omega] at cp
       clear hHk hI
       generalize hu : d[k + k2]! = u at cm
       generalize hv : d[k + k2 - 1]! = v at cp
       generalize dk[kk]! = old at ck
       have C : Aside (d[k + k2]! = u ∧ d[k + k2 - 1]! = v) := ⟨hu, hv⟩
       clear hu hv
       by_cases huv : u = v
       ·subst huv
        go_wp2_with fail
        go_region_o
        go_wp2
        go_roundg (d.size - (k + (k2 + 1)))
        case measure => omega
        case rel => exact ⟨kk, k2 + 1, q2 + 1, dk, rfl, by go_num, by omega, by omega, Nat.le_refl _, by rw [W2.out]; rfl, I2.out.skip (keeps_neg (by omega) (by rw [C.out.1, C.out.2]))⟩
       ·go_wp2_with fail
        go_region_o
        go_wp2
        go_roundg (d.size - (k + (k2 + 1)))
        case measure => omega
        case rel => exact ⟨kk + 1, k2 + 1, q2 + 1, dk.setIfInBounds kk u, by go_num, by go_num, by omega, by omega, Nat.le_refl _, store_world_u64 (by omega) W2.out u, by have := I2.out.keep hlt2 (keeps_pos (by rw [C.out.1, C.out.2]; exact huv)); rwa [C.out.1] at this⟩
      ·have hend : k + k2 = d.size := by omega
       have hcl : ∀ ty, (Builtin.clear_ #[36] ty #[.slice (some ⟨blk, off + kk, none⟩) (d.size - kk) (cap - kk)]).run Tryz.prog wr = .ok (.tuple #[]) (wr.setCells blk (off + kk) (List.replicate (d.size - kk) ((Value.int .u64) 0))) :=
        fun ty => Lib.run_clear_slice wr _ _ ty _ Tryz.underlying36 (fun w => by kernel_rfl) rfl rfl blk (off + kk) _ _ (by omega) (fun j hj => by rw [show off + kk + j = off + (kk + j) by omega, (hHk (kk + j) (by omega)).1]; rfl) (fun j hj => by rw [show off + kk + j = off + (kk + j) by omega]; exact (hHk (kk + j) (by omega)).2)
       clear hHk hI
       go_wp2
       go_ret
       have hI := I2.out
       rw [hend] at hI
       refine ⟨by rw [hI.len]; rfl, q2, ?_⟩
       rw [hI.len, ← hI.done 0, ← putRow_setCells (Value.int .u64) _ blk off _ dk kk (by simp; omega), ← W2.out, List.map_replicate]
    ·go_wp2_with fail
     go_region_o
     go_wp2
     go_roundg (d.size - (k + 1))
     case measure => omega
     case rel =>
      refine ⟨k + 1, q + 1, by omega, by omega, Nat.le_refl _, by go_num, rfl, fun j hj => ?_⟩
      by_cases e : j = k
      ·subst e
       exact keeps_pos (by rw [B.out.1, B.out.2]; exact hdup)
      ·exact A.out j (by omega)
   ·have : k = d.size := by omega
    subst this
    have HH : Aside (Holds (Value.int .u64) w blk off d) := hH
    clear hH
    go_wp2
    go_ret
    obtain ⟨e1, e2⟩ := HS.out q hall
    exact ⟨by rw [e1]; rfl, q, e2⟩
theorem compact_u64 (blk off cap : Nat) (zs : List Int) (w : World) (hH : Holds (Value.int .u64) w blk off zs.toArray) (hsz : zs.length ≤ 9223372036854775807) (hcap : zs.length ≤ cap) :
  Calls Tryz.prog 81 #[.slice (some ⟨blk, off, none⟩) zs.length cap] w fun e w' => e = .returned (.slice (some ⟨blk, off, none⟩) (Lib.compact zs).length cap) ∧ ∃ q, w' = putRow (Value.int .u64) (Sort.ahead w q) blk off (Lib.compact zs ++ List.replicate (zs.length - (Lib.compact zs).length) 0).toArray := by
 have h := compact_u64_arr blk off cap zs.toArray w hH (by simpa using hsz) (by simpa using hcap)
 simpa [Lib.compact] using h
set_option maxHeartbeats 1000000 in
theorem compact_u64_empty (a : Option Addr) (cap : Nat) (w : World) :
  Calls Tryz.prog 81 #[.slice a 0 cap] w fun e w' => e = .returned (.slice a 0 cap) ∧ w' = w := by
 go_enter Tryz.func81, Tryz.ntmps81
 go_wp2
 go_ret
 exact ⟨rfl, rfl⟩
end Go.Proofs.YtlhmdgaohonpbaaGreatDoor.Srt

namespace Go.Proofs.YtlhmdgaohonpbaaGreatDoor.Srt
open Go.Shelf Go.RowKit Go.Lib Go.Sort Go.Proofs
end Go.Proofs.YtlhmdgaohonpbaaGreatDoor.Srt

namespace Go.Proofs.YtlhmdgaohonpbaaGreatDoor
open Go.RowKit Go.Sort Go.Proofs.YtlhmdgaohonpbaaGreatDoor.MapRaw Go.ChangeMaps
theorem u_len (x : Int) : (encU x).length = 1 := rfl
theorem u_one (x : Int) : ∀ u ∈ encU x, u.oneCell' = true := by intro u hu; simp at hu; subst hu; rfl
def OwnPost (w : World) (l : List Int) (e : Ending) (w' : World) : Prop := ∃ v, e = .returned v ∧ w'.ownsRow w.heap.size 34 1 v l.length (l.flatMap encU) ∧ Below w.heap.size w w'
set_option maxRecDepth 100000 in
set_option maxHeartbeats 400000 in
theorem clone_u64 {D : Nat → Prop} (v : Value) (l : List Int) (w : World) (hv : SlU w D v l) (hl : l.length ≤ 1000000) :
  Calls Tryz.prog 80 #[v] w (OwnPost w l) := by
 have hsrc := hv.src u_len u_one (by decide)
 obtain ⟨A, c, rfl, h1, h2, h3, h4, h5⟩ := hv
 unfold OwnPost
 obtain ⟨n, hn⟩ : ∃ n, n = l.length := ⟨_, rfl⟩
 rw [← hn] at hl hsrc ⊢
 have Hn := Lib.hid hn
 have Hs := Lib.hid hsrc
 cases A with
 | none =>
  have hl0 : l = [] := by
   cases l with
   | nil => rfl
   | cons x r => obtain ⟨b, off, e, _⟩ := h5 0 x rfl; cases e
  subst hl0
  have hc := h3 rfl
  subst hc
  have hn0 : n = 0 := hn
  subst hn0
  clear h1 h2 h3 h4 h5 hn hsrc Hs
  have ks := fun (W : World) => Lib.run_eql_slice_nil (P := Tryz.prog) W 36 34 none 0 0 0 0 Tryz.underlying36
  go_enter Tryz.func80, Tryz.ntmps80
  go_wp2
  go_ret
  exact ⟨_, rfl, ⟨rfl, .inl ⟨rfl, rfl⟩⟩, Below.refl _ _⟩
 | some ad =>
  have ks := fun (W : World) => Lib.run_eql_slice_nil (P := Tryz.prog) W 36 34 (some ad) n c 0 0 Tryz.underlying36
  clear h1 h2 h3 h4 h5 hn hsrc
  go_enter Tryz.func80, Tryz.ntmps80
  go_wp2_with ((refine wpList_app (o := ⟨some 7, _, _, _, _, _⟩) (w0 := w) w.heap.size rfl _ _ 36 34 _ 1 8 n (l.flatMap encU) rfl Tryz.underlying36 info_u64 rfl (by decide) (by decide) (.slice (some ⟨w.heap.size, 0, none⟩) 0 0) 0 [] rfl (Hs.out.below (balloc (Below.refl _ _) _)) (World.ownsRow_lit w #[] 0 (Nat.le_refl _) (by decide) rfl) (balloc (Below.refl _ _) _) (by simp) (by omega) ?_; intro v1 w5 hO hB5 hg5 hat5; simp only [Nat.zero_add, List.nil_append] at hO))
  go_ret
  exact ⟨_, rfl, hO, hB5⟩
theorem own_cut {w : World} {base g n cap k : Nat} {e : TypeId} {xs : List Value} (h : w.ownsRow base e 1 (.slice (some ⟨g, 0, none⟩) n cap) n xs) (hk : k ≤ n) : w.ownsRow base e 1 (.slice (some ⟨g, 0, none⟩) k cap) k (xs.take k) := by
 obtain ⟨h0, h⟩ := h
 refine ⟨by simp at h0 ⊢; omega, ?_⟩
 rcases h with ⟨h, _⟩ | ⟨g', cap', cur, e1, hb, h1, h2, h3, h4, h5⟩
 ·cases h
 ·simp only [Value.slice.injEq, Option.some.injEq, Addr.mk.injEq] at e1
  obtain ⟨⟨rfl, -⟩, -, hc⟩ := e1
  have hc2 : cap' = cap := by omega
  subst hc2
  refine .inr ⟨g, cap', cur, rfl, hb, h1, by omega, h3, h4, ?_⟩
  rw [← h5, List.take_take]
  congr 1
  omega
theorem compact_own {base n : Nat} {v : Value} {ks : List Int} (w : World) (h : w.ownsRow base 34 1 v n (ks.flatMap encU)) (hn : n = ks.length) (hl : ks.length < 4611686018427387904) :
  Calls Tryz.prog 81 #[v] w fun e w' => ∃ v', e = .returned v' ∧ w'.ownsRow base 34 1 v' (Lib.compact ks).length ((Lib.compact ks).flatMap encU) ∧ w.grownBy w' v.ownBlock := by
 subst hn
 rw [flat_encU] at h
 rcases h.2 with ⟨rfl, h0⟩ | ⟨g, cap, cur, rfl, hbase, hb, h1, h2, h3, h4⟩
 ·have hk : ks = [] := List.eq_nil_of_length_eq_zero h0
  subst hk
  refine (Srt.compact_u64_empty none 0 w).mono ?_
  rintro e w' ⟨rfl, rfl⟩
  exact ⟨_, rfl, h, World.grownBy.refl _ _⟩
 ·have hH := Srt.holds_of_blockI (ss := ks) hb (by simpa using h4)
  refine (Srt.compact_u64 g 0 cap ks w hH (by omega) h1).mono ?_
  rintro e w' ⟨rfl, q, rfl⟩
  have hcl := compact_len ks
  have hT : (Lib.compact ks ++ List.replicate (ks.length - (Lib.compact ks).length) 0).length = ks.length := by simp; omega
  have hO := Srt.ownsRow_sortedI (n := q) (os := #[]) hT hbase hb h1 h2 (by simpa using h3)
  have hG := Srt.grownBy_sortedI (w := w) (g := g) (n := q) (os := #[]) (Lib.compact ks ++ List.replicate (ks.length - (Lib.compact ks).length) 0).toArray
  have hgr : ∀ W : World, grow W #[] = W := fun W => by simp [grow]
  rw [hgr] at hO hG
  have hc := own_cut hO hcl
  rw [List.map_append, List.take_left' (by simp)] at hc
  rw [flat_encU]
  exact ⟨_, rfl, hc, hG⟩
set_option maxRecDepth 100000 in
set_option maxHeartbeats 400000 in
theorem post_set {D : Nat → Prop} (v : Value) (l : List Int) (w : World) (hv : SlU w D v l) (hl : l.length ≤ 1000000) :
  Calls Tryz.prog 60 #[v] w (OwnPost w (setF l)) := by
 have hc := clone_u64 v l w hv hl
 unfold OwnPost at hc
 have HC := Lib.hid hc
 obtain ⟨A, c, rfl, -⟩ := hv
 have HL := Lib.hid hl
 have Hn : Hid (∃ n, n = l.length) := Lib.hid ⟨_, rfl⟩
 generalize hnl : l.length = nl at *
 have HN := Lib.hid hnl
 clear hc hl hnl
 go_enter Tryz.func60, Tryz.ntmps60
 go_wp2_with fail
 refine HC.out.mono ?_
 rintro e w1 ⟨v1, rfl, ho1, hb1⟩
 have hs := sort_own w1 ho1 HN.out.symm (by have := HL.out; have := HN.out; omega)
 have hk1 := ownsRow_blk ho1
 have HS := Lib.hid hs
 have HB1 := Lib.hid hb1
 have HK1 := Lib.hid hk1
 clear hs ho1 hb1 hk1
 go_wp2_with fail
 refine HS.out.mono ?_
 rintro e w2 ⟨rfl, ho2, hg2⟩
 have hcp := compact_own w2 ho2 (by rw [sorted_len]; exact HN.out.symm) (by rw [sorted_len]; have := HL.out; have := HN.out; omega)
 have HCp := Lib.hid hcp
 have HB2 : Hid (Below w.heap.size w w2) := Lib.hid (HB1.out.grown hg2 HB1.out.size (fun k hk => (HK1.out k hk).1))
 have HK2 := Lib.hid (ownsRow_blk ho2)
 clear hcp ho2 hg2
 go_wp2_with fail
 refine HCp.out.mono ?_
 rintro e w3 ⟨v3, rfl, ho3, hg3⟩
 have HO3 := Lib.hid ho3
 have HB3 : Hid (Below w.heap.size w w3) := Lib.hid (HB2.out.grown hg3 HB2.out.size (fun k hk => (HK2.out k hk).1))
 clear ho3 hg3
 go_wp2_with fail
 go_ret
 exact ⟨_, rfl, HO3.out, HB3.out⟩
end Go.Proofs.YtlhmdgaohonpbaaGreatDoor

namespace Go.Proofs.YtlhmdgaohonpbaaGreatDoor
open Go.RowKit Go.Proofs.YtlhmdgaohonpbaaGreatDoor.MapRaw Go.ChangeMaps
set_option maxRecDepth 100000 in
set_option maxHeartbeats 1000000 in
theorem law_numbers {D D1 : Nat → Prop} (va vb : Value) (la lb : List Int) (w : World) (ha : SlU w D va la) (hb : SlU w D1 vb lb) :
  Calls Tryz.prog 18 #[va, vb] w fun e w' => e = .returned (.bool (decide (la = lb))) ∧ Below w.heap.size w w' := by
 obtain ⟨A, cA, rfl, p1, p2, -, -, p5⟩ := ha
 obtain ⟨B, cB, rfl, q1, q2, -, -, q5⟩ := hb
 have HA := Lib.hid fun (W : World) (hW : Below w.heap.size w W) => Rd.below p5 hW
 have HB := Lib.hid fun (W : World) (hW : Below w.heap.size w W) => Rd.below q5 hW
 have ha9 : la.length ≤ 9223372036854775807 := by simp only [maxLen] at p2; omega
 have hb9 : lb.length ≤ 9223372036854775807 := by simp only [maxLen] at q2; omega
 clear p1 p2 p5 q1 q2 q5
 by_cases hlen : la.length = lb.length
 ·obtain ⟨n, hn⟩ : ∃ n, n = la.length := ⟨_, rfl⟩
  have hn2 : n = lb.length := hn.trans hlen
  rw [← hn, ← hn2]
  have Hn := Lib.hid hn
  have Hn2 := Lib.hid hn2
  have hnb : n ≤ 9223372036854775807 := by omega
  clear hn hn2 ha9 hb9 hlen
  go_enter Tryz.func18, Tryz.ntmps18
  go_wp2_with fail
  go_loopw [13] (fun i wr => ∃ k : Nat, k ≤ n ∧ i = .int .i64 k ∧ la.take k = lb.take k ∧ ∃ m, wr = w.drewN m) (fun i _ => n - (intOf i).toNat)
  case atStart => exact ⟨0, Nat.zero_le _, rfl, rfl, 0, rfl⟩
  case round =>
   obtain ⟨k, hk, rfl, ht, m, rfl⟩ := hrel
   have Ht := Lib.hid ht
   clear ht
   by_cases hlt : k < n
   ·obtain ⟨b, off, e1, c0⟩ := rdU_at (HA.out w (Below.refl _ _)) (k := k) (by rw [← Hn.out]; exact hlt)
    obtain ⟨b', off', e2, c0'⟩ := rdU_at (HB.out w (Below.refl _ _)) (k := k) (by rw [← Hn2.out]; exact hlt)
    cases e1; cases e2
    have HNx : Hid (la[k]'(by rw [← Hn.out]; exact hlt) = lb[k]'(by rw [← Hn2.out]; exact hlt) → la.take (k + 1) = lb.take (k + 1)) := Lib.hid (fun h => by
     rw [List.take_succ_eq_append_getElem (by rw [← Hn.out]; exact hlt), List.take_succ_eq_append_getElem (by rw [← Hn2.out]; exact hlt), Ht.out, h])
    have HNe : Hid (¬ la[k]'(by rw [← Hn.out]; exact hlt) = lb[k]'(by rw [← Hn2.out]; exact hlt) → ¬ la = lb) := Lib.hid (fun h e => by subst e; exact h rfl)
    generalize la[k]'(by rw [← Hn.out]; exact hlt) = x at *
    generalize lb[k]'(by rw [← Hn2.out]; exact hlt) = y at *
    by_cases heq : x = y
    ·have hd : (x != y) = false := by simp [heq]
     have hd2 : decide (x = y) = true := by simp [heq]
     have HE := Lib.hid (HNx.out heq)
     clear HNx HNe heq
     go_wp2_with fail
     go_quiet (fail)
     go_wp2_with fail
     go_roundw
     case rel => exact ⟨k + 1, by omega, by go_num, HE.out, _, rfl⟩
     case measure => simp [intOf] <;> omega
    ·have hd : (x != y) = true := by simp [heq]
     have hd2 : decide (x = y) = false := by simp [heq]
     have HE := Lib.hid (HNe.out heq)
     clear HNx HNe heq
     go_wp2_with fail
     go_quiet (fail)
     go_wp2_with fail
     go_ret
     exact ⟨ret_bool (by simp [HE.out]), bdr (bdr (Below.refl _ _) _) _⟩
   ·go_wp2_with fail
    go_ret
    refine ⟨ret_bool ?_, bdr (Below.refl _ _) _⟩
    have : la = lb := by
     have := Ht.out
     rwa [List.take_of_length_le (by rw [← Hn.out]; omega), List.take_of_length_le (by rw [← Hn2.out]; omega)] at this
    simp [this]
 ·have hl0 : ((la.length : Int) == (lb.length : Int)) = false := by simp; omega
  have hl1 : ((la.length : Int) != (lb.length : Int)) = true := by simp; omega
  have hne : ¬ la = lb := fun e => hlen (by rw [e])
  have HD : Hid (decide (la = lb) = false) := Lib.hid (decide_eq_false hne)
  generalize decide (la = lb) = res at *
  generalize la.length = na at *
  generalize lb.length = nb at *
  clear hne hlen HA HB
  go_enter Tryz.func18, Tryz.ntmps18
  go_wp2_with fail
  go_ret
  exact ⟨ret_bool HD.out.symm, Below.refl _ _⟩
end Go.Proofs.YtlhmdgaohonpbaaGreatDoor

namespace Go.Proofs.YtlhmdgaohonpbaaGreatDoor
open Go.RowKit Go.Proofs.YtlhmdgaohonpbaaGreatDoor.MapRaw Go.ChangeMaps
set_option maxRecDepth 100000 in
set_option maxHeartbeats 400000 in
theorem ref_has {D : Nat → Prop} (v : Value) (l : List Int) (x : Int) (w : World) (hv : SlU w D v l) (hl : l.length ≤ 1000000) :
  Calls Tryz.prog 78 #[v, .int .u64 x] w fun e w' => e = .returned (.bool (decide (x ∈ l))) ∧ Below w.heap.size w w' := by
 obtain ⟨A, c, rfl, p1, p2, -, -, p5⟩ := hv
 have HRd := Lib.hid fun (W : World) (hW : Below w.heap.size w W) => Rd.below p5 hW
 have hm9 : l.length ≤ 9223372036854775807 := by omega
 have HAny : Hid (decide (x ∈ l) = l.any fun y => y == x) := Lib.hid (Bool.eq_iff_iff.2 (by simp))
 generalize decide (x ∈ l) = res at *
 obtain ⟨m, hm⟩ : ∃ m, m = l.length := ⟨_, rfl⟩
 have Hm := Lib.hid hm
 rw [← hm] at hm9 ⊢
 clear p1 p2 p5 hm hl
 go_enter Tryz.func78, Tryz.ntmps78
 go_wp2_with fail
 go_loopw [9] (fun i wr => ∃ k : Nat, k ≤ m ∧ i = .int .i64 k ∧ AnyTo (fun y : Int => y == x) l k ∧ Below w.heap.size w wr) (fun i _ => m - (intOf i).toNat)
 case atStart => exact ⟨0, Nat.zero_le _, rfl, AnyTo.start _ _, Below.refl _ _⟩
 case round =>
  obtain ⟨k, hk, rfl, hE, hB⟩ := hrel
  have HBr := Lib.hid hB
  by_cases hlt : k < m
  ·have hkl : k < l.length := by rw [← Hm.out]; exact hlt
   obtain ⟨b, off, e1, hzc⟩ := rdU_at (HRd.out wr hB) hkl
   cases e1
   have hRd := hE.round hkl
   generalize l[k] = y at *
   have HRnd := Lib.hid hRd
   clear hE hB hRd
   by_cases hyx : y = x
   ·have hd : decide (y = x) = true := decide_eq_true hyx
    have hd2 : (y == x) = true := by simpa using hyx
    have HE : Hid (res = true) := Lib.hid (by rw [HAny.out]; rcases HRnd.out with ⟨-, g⟩ | ⟨g, -⟩; exact g; rw [hd2] at g; cases g)
    go_wp2_with fail
    go_ret
    exact ⟨ret_bool HE.out.symm, HBr.out⟩
   ·have hd : decide (y = x) = false := decide_eq_false hyx
    have hd2 : (y == x) = false := by simpa using hyx
    have HE : Hid (AnyTo (fun y : Int => y == x) l (k + 1)) := Lib.hid (by rcases HRnd.out with ⟨g, -⟩ | ⟨-, g⟩; rw [hd2] at g; cases g; exact g)
    go_wp2_with fail
    go_roundw
    case rel => exact ⟨k + 1, by omega, by go_num, HE.out, HBr.out⟩
    case measure => simp [intOf] <;> omega
  ·have hEd := hE.done (by rw [← Hm.out]; exact hlt)
   have HE : Hid (res = false) := Lib.hid (by rw [HAny.out, hEd])
   clear hE hB hEd
   go_wp2_with fail
   go_ret
   exact ⟨ret_bool HE.out.symm, HBr.out⟩
theorem with_len (l : List Int) (n : Int) : (withF l n).length ≤ l.length + 1 := by
 unfold withF
 split
 ·omega
 ·rw [List.length_append, List.length_cons]
  have h : ∀ l : List Int, (l.filter (fun x => decide (x < n))).length + (l.filter (fun x => decide (n < x))).length ≤ l.length := by
   intro l
   induction l with
   | nil => simp
   | cons y l ih =>
    simp only [List.filter_cons]
    by_cases h1 : y < n
    ·have h2 : ¬ n < y := by omega
     simp only [h1, h2, decide_true, decide_false, if_true, List.length_cons, Bool.false_eq_true, if_false]
     omega
    ·by_cases h2 : n < y <;> simp only [h1, h2, decide_true, decide_false, if_true, List.length_cons, Bool.false_eq_true, if_false] <;> omega
  have := h l
  omega
def SetPost (w : World) (D : Nat → Prop) (l : List Int) (e : Ending) (w' : World) : Prop := ∃ v, e = .returned v ∧ SlU w' (fun k => D k ∨ w.heap.size ≤ k) v l ∧ Below w.heap.size w w'
set_option maxRecDepth 100000 in
set_option maxHeartbeats 2000000 in
theorem ref_with {D : Nat → Prop} (v : Value) (l : List Int) (x : Int) (w : World) (hv : SlU w D v l) (hl : l.length ≤ 1000000) :
  Calls Tryz.prog 54 #[v, .int .u64 x] w (SetPost w D (withF l x)) := by
 have hhas := ref_has v l x w hv hl
 have HHas := Lib.hid hhas
 have HV := Lib.hid hv
 have HL := Lib.hid hl
 obtain ⟨A, c, rfl, p1, p2, -, -, p5⟩ := hv
 have HRd := Lib.hid fun (W : World) (hW : Below w.heap.size w W) => Rd.below p5 hW
 have hm9 : l.length ≤ 9223372036854775807 := by omega
 unfold SetPost
 by_cases hx : x ∈ l
 ·have HW : Hid (withF l x = l) := Lib.hid (by unfold withF; rw [if_pos hx])
  have hdx : decide (x ∈ l) = true := decide_eq_true hx
  rw [hdx] at HHas
  obtain ⟨m, hm⟩ : ∃ m, m = l.length := ⟨_, rfl⟩
  rw [← hm] at HHas HV hm9 ⊢
  clear p1 p2 p5 hm hl hhas hx hdx HRd
  go_enter Tryz.func54, Tryz.ntmps54
  go_wp2_with fail
  refine HHas.out.mono ?_
  rintro e w1 ⟨rfl, hb⟩
  have HB := Lib.hid hb
  clear hb
  go_wp2_with fail
  go_ret
  refine ⟨_, rfl, ?_, HB.out⟩
  rw [HW.out]
  exact (HV.out.below HB.out).mono (fun _ _ h => .inl h)
 ·have HW : Hid (withF l x = l.filter (fun y => decide (y < x)) ++ x :: l.filter (fun y => decide (x < y))) := Lib.hid (by unfold withF; rw [if_neg hx])
  have hdx : decide (x ∈ l) = false := decide_eq_false hx
  rw [hdx] at HHas
  obtain ⟨m, hm⟩ : ∃ m, m = l.length := ⟨_, rfl⟩
  have Hm := Lib.hid hm
  rw [← hm] at HHas hm9 ⊢
  clear p1 p2 p5 hm hl hhas hx hdx
  go_enter Tryz.func54, Tryz.ntmps54
  go_wp2_with fail
  refine HHas.out.mono ?_
  rintro e w1 ⟨rfl, hb⟩
  have HB1 := Lib.hid hb
  have ho := World.ownsRow_lit (base := w.heap.size) (e := 34) (size := 1) w1 #[] 0 hb.size (by decide) rfl
  have HO0 := Lib.hid ho
  have HBa0 := Lib.hid (bthen hb (balloc (Below.refl _ _) (.cells #[] 34)))
  clear hb ho
  go_wp2_with fail
  go_loopw [5, 17] (fun vo i wr => ∃ (k : Nat) (ks : List Int), k ≤ m ∧ i = .int .i64 k ∧ ks = (l.take k).filter (fun y => decide (y < x)) ∧ wr.ownsRow w.heap.size 34 1 vo ks.length (ks.flatMap encU) ∧ Below w.heap.size w wr) (fun _ i _ => m - (intOf i).toNat)
  case atStart => exact ⟨0, [], Nat.zero_le _, rfl, by simp, by simpa using HO0.out, HBa0.out⟩
  case round =>
   obtain ⟨k, ks, hk, rfl, hks, hown, hB⟩ := hrel
   have HBr := Lib.hid hB
   have HOw := Lib.hid hown
   have HKs := Lib.hid hks
   by_cases hlt : k < m
   ·have hkl : k < l.length := by rw [← Hm.out]; exact hlt
    obtain ⟨b, off, e1, hzc⟩ := rdU_at (HRd.out wr hB) hkl
    cases e1
    have HNx : Hid ((l.take (k + 1)).filter (fun y => decide (y < x)) = ks ++ if (decide (l[k] < x)) = true then [l[k]] else []) := Lib.hid (by
     rw [List.take_succ_eq_append_getElem hkl, List.filter_append, hks]
     simp only [List.append_assoc, List.filter_cons, List.filter_nil])
    have HLk : Hid (ks.length ≤ 3000000) := Lib.hid (by
     rw [hks]
     have h1 := List.length_filter_le (fun y => decide (y < x)) (l.take k)
     have h2 : (l.take k).length ≤ l.length := by simp [List.length_take]; omega
     have := HL.out
     omega)
    generalize l[k] = y at *
    have hd : ∃ bz, decide (y < x) = bz := ⟨_, rfl⟩
    obtain ⟨bz, hd⟩ := hd
    rw [hd] at HNx
    clear hown hks hB
    cases bz with
    | false =>
     have HN2 : Hid (ks = (l.take (k + 1)).filter (fun y => decide (y < x))) := Lib.hid (by rw [HNx.out]; simp)
     go_wp2_with fail
     go_roundw
     case rel => exact ⟨k + 1, ks, by omega, by go_num, HN2.out, HOw.out, HBr.out⟩
     case measure => simp [intOf] <;> omega
    | true =>
     have HN2 : Hid (ks ++ [y] = (l.take (k + 1)).filter (fun y => decide (y < x))) := Lib.hid (by rw [HNx.out]; simp)
     have HBa : Hid (Below wr.heap.size wr (wr.alloc (.cells #[.int .u64 y] 34))) := Lib.hid (balloc (Below.refl _ _) _)
     have HOa := Lib.hid (own_below HOw.out HBa.out)
     have HSrc : Hid (SrcAt (wr.alloc (.cells #[.int .u64 y] 34)) (.slice (some ⟨wr.heap.size, 0, none⟩) 1 1) 1 1 [.int .u64 y]) := Lib.hid (src_block (m := 1) (size := 1) (blk_new wr (.cells #[.int .u64 y] 34 (0, 0))) rfl (by intro u hu; simp at hu; subst hu; rfl) 1)
     go_wp2_with (at_builtin; refine wpList_app (w0 := w) w.heap.size rfl _ _ 36 34 _ 1 8 1 [.int .u64 y] rfl Tryz.underlying36 info_u64 rfl (by decide) (by decide) u5 ks.length (ks.flatMap encU) ?hs1 ?hx1 HOa.out (HBr.out.trans (HBa.out.mono HBr.out.size)) (by have := HBr.out.size; simp; omega) (by have := HLk.out; omega) ?_)
     try (case hs1 => rfl)
     case hx1 => exact HSrc.out
     intro v3 w6 hO3 hB3 hg3 hat3
     have HO3 := Lib.hid hO3
     have HB3 := Lib.hid hB3
     clear hO3 hB3 hg3 hat3
     go_wp2_with fail
     go_roundw
     case rel => exact ⟨k + 1, ks ++ [y], by omega, by go_num, HN2.out, by simpa using HO3.out, HB3.out⟩
     case measure => simp [intOf] <;> omega
   ·have htk : l.take k = l := List.take_of_length_le (by rw [← Hm.out]; omega)
    rw [htk] at hks
    have HKe := Lib.hid hks
    clear hown hks hB htk HKs
    have HBa : Hid (Below wr.heap.size wr (wr.alloc (.cells #[.int .u64 x] 34))) := Lib.hid (balloc (Below.refl _ _) _)
    have HOa := Lib.hid (own_below HOw.out HBa.out)
    have HLk : Hid (ks.length ≤ 1000000) := Lib.hid (by rw [HKe.out]; exact Nat.le_trans (List.length_filter_le _ _) HL.out)
    have HSrc : Hid (SrcAt (wr.alloc (.cells #[.int .u64 x] 34)) (.slice (some ⟨wr.heap.size, 0, none⟩) 1 1) 1 1 [.int .u64 x]) := Lib.hid (src_block (m := 1) (size := 1) (blk_new wr (.cells #[.int .u64 x] 34 (0, 0))) rfl (by intro u hu; simp at hu; subst hu; rfl) 1)
    go_wp2_with (at_builtin; refine wpList_app (w0 := w) w.heap.size rfl _ _ 36 34 _ 1 8 1 [.int .u64 x] rfl Tryz.underlying36 info_u64 rfl (by decide) (by decide) u5 ks.length (ks.flatMap encU) ?hs2 ?hx2 HOa.out (HBr.out.trans (HBa.out.mono HBr.out.size)) (by have := HBr.out.size; simp; omega) (by have := HLk.out; omega) ?_)
    try (case hs2 => rfl)
    case hx2 => exact HSrc.out
    intro v3 w6 hO3 hB3 hg3 hat3
    have HO3 := Lib.hid hO3
    have HB3 := Lib.hid hB3
    clear hO3 hB3 hg3 hat3 HOa HSrc HBa HLk HOw HBr
    go_wp2_with fail
    go_loopw [5, 35] (fun vo i wr => ∃ (k : Nat) (ks : List Int), k ≤ m ∧ i = .int .i64 k ∧ ks = (l.filter (fun y => decide (y < x)) ++ [x]) ++ (l.take k).filter (fun y => decide (x < y)) ∧ wr.ownsRow w.heap.size 34 1 vo ks.length (ks.flatMap encU) ∧ Below w.heap.size w wr) (fun _ i _ => m - (intOf i).toNat)
    case atStart => exact ⟨0, l.filter (fun y => decide (y < x)) ++ [x], Nat.zero_le _, rfl, by simp, by have h := HO3.out; simpa [List.flatMap_append, HKe.out] using h, HB3.out⟩
    case round =>
     obtain ⟨k, ks, hk, rfl, hks, hown, hB⟩ := hrel
     have HBr := Lib.hid hB
     have HOw := Lib.hid hown
     have HKs := Lib.hid hks
     by_cases hlt : k < m
     ·have hkl : k < l.length := by rw [← Hm.out]; exact hlt
      obtain ⟨b, off, e1, hzc⟩ := rdU_at (HRd.out wr hB) hkl
      cases e1
      have HNx : Hid ((l.filter (fun y => decide (y < x)) ++ [x]) ++ (l.take (k + 1)).filter (fun y => decide (x < y)) = ks ++ if (decide (x < l[k])) = true then [l[k]] else []) := Lib.hid (by
       rw [List.take_succ_eq_append_getElem hkl, List.filter_append, hks]
       simp only [List.append_assoc, List.filter_cons, List.filter_nil])
      have HLk : Hid (ks.length ≤ 3000000) := Lib.hid (by
       rw [hks]
       have h1 := List.length_filter_le (fun y => decide (x < y)) (l.take k)
       have h2 : (l.take k).length ≤ l.length := by simp [List.length_take]; omega
       have := HL.out
       rw [List.length_append, List.length_append, List.length_singleton]
       have h3 := List.length_filter_le (fun y => decide (y < x)) l
       omega)
      generalize l[k] = y at *
      have hd : ∃ bz, decide (x < y) = bz := ⟨_, rfl⟩
      obtain ⟨bz, hd⟩ := hd
      rw [hd] at HNx
      clear hown hks hB
      cases bz with
      | false =>
       have HN2 : Hid (ks = (l.filter (fun y => decide (y < x)) ++ [x]) ++ (l.take (k + 1)).filter (fun y => decide (x < y))) := Lib.hid (by rw [HNx.out]; simp)
       go_wp2_with fail
       go_roundw
       case rel => exact ⟨k + 1, ks, by omega, by go_num, HN2.out, HOw.out, HBr.out⟩
       case measure => simp [intOf] <;> omega
      | true =>
       have HN2 : Hid (ks ++ [y] = (l.filter (fun y => decide (y < x)) ++ [x]) ++ (l.take (k + 1)).filter (fun y => decide (x < y))) := Lib.hid (by rw [HNx.out]; simp)
       have HBa : Hid (Below wr.heap.size wr (wr.alloc (.cells #[.int .u64 y] 34))) := Lib.hid (balloc (Below.refl _ _) _)
       have HOa := Lib.hid (own_below HOw.out HBa.out)
       have HSrc : Hid (SrcAt (wr.alloc (.cells #[.int .u64 y] 34)) (.slice (some ⟨wr.heap.size, 0, none⟩) 1 1) 1 1 [.int .u64 y]) := Lib.hid (src_block (m := 1) (size := 1) (blk_new wr (.cells #[.int .u64 y] 34 (0, 0))) rfl (by intro u hu; simp at hu; subst hu; rfl) 1)
       go_wp2_with (at_builtin; refine wpList_app (w0 := w) w.heap.size rfl _ _ 36 34 _ 1 8 1 [.int .u64 y] rfl Tryz.underlying36 info_u64 rfl (by decide) (by decide) u5 ks.length (ks.flatMap encU) ?hs3 ?hx3 HOa.out (HBr.out.trans (HBa.out.mono HBr.out.size)) (by have := HBr.out.size; simp; omega) (by have := HLk.out; omega) ?_)
       try (case hs3 => rfl)
       case hx3 => exact HSrc.out
       intro v3 w6 hO3 hB3 hg3 hat3
       have HO3 := Lib.hid hO3
       have HB3 := Lib.hid hB3
       clear hO3 hB3 hg3 hat3
       go_wp2_with fail
       go_roundw
       case rel => exact ⟨k + 1, ks ++ [y], by omega, by go_num, HN2.out, by simpa using HO3.out, HB3.out⟩
       case measure => simp [intOf] <;> omega
     ·have htk : l.take k = l := List.take_of_length_le (by rw [← Hm.out]; omega)
      rw [htk] at hks
      have HKe := Lib.hid hks
      clear hown hks hB htk HKs
      go_wp2_with fail
      go_ret
      refine ⟨_, rfl, ?_, HBr.out⟩
      have ho := HOw.out
      rw [HKe.out] at ho
      have hs := own_slc encU_len rfl ho
      rw [HW.out]
      rw [List.append_assoc, List.singleton_append] at hs
      exact hs.mono (fun k _ h => .inr h)
end Go.Proofs.YtlhmdgaohonpbaaGreatDoor

namespace Go.Proofs.YtlhmdgaohonpbaaGreatDoor
open Go.RowKit Go.Sort Go.Proofs.YtlhmdgaohonpbaaGreatDoor.MapRaw Go.ChangeMaps
end Go.Proofs.YtlhmdgaohonpbaaGreatDoor

namespace Go.Proofs.YtlhmdgaohonpbaaGreatDoor
open Go.RowKit Go.Sort Go.Proofs.YtlhmdgaohonpbaaGreatDoor.MapRaw Go.ChangeMaps
set_option maxRecDepth 100000 in
set_option maxHeartbeats 1000000 in
theorem grow_nil (n : Nat) (w : World) (hn : n ≤ 2000000) :
  Calls Tryz.prog 84 #[.slice none 0 0, .int .i64 n] w fun e w' => ∃ c, e = .returned (.slice (some ⟨w.heap.size, 0, none⟩) 0 c) ∧ w'.ownsRow w.heap.size 34 1 (.slice (some ⟨w.heap.size, 0, none⟩) 0 c) 0 [] ∧ Below w.heap.size w w' ∨ e = .returned (.slice none 0 0) ∧ w' = w := by
 by_cases h0 : n = 0
 ·subst h0
  go_enter Tryz.func84, Tryz.ntmps84
  go_wp2
  go_ret
  exact ⟨0, .inr ⟨rfl, rfl⟩⟩
 ·obtain ⟨i0, hi, hii⟩ := Option.map_eq_some_iff.1 info_u64
  simp only [Prod.mk.injEq] at hii
  obtain ⟨hz, hs, hb⟩ := hii
  have hrz : ∀ ty, (Builtin.append_ #[36, 3] ty #[.slice none 0 0, .int .i64 n]).run Tryz.prog w =
    .ok (.slice (some ⟨w.heap.size, 0, none⟩) n (grownCap w n 0 34)) (w.drew.alloc (.cells (#[] ++ Builtin.zeroCells (Value.int .u64 0).cells n ++ Builtin.zeroCells (Value.int .u64 0).cells (grownCap w n 0 34 - n)) 34)) := fun ty => by
   have h := Lib.run_append_grow_zeros w 36 3 ty 34 i0 (.int .u64 0) .i64 .i64 Tryz.underlying36 Tryz.underlying3 hi hz none 0 0 [] (by rw [hs]; exact run_firstCells_none w.drew 1 0 0 0) n (by omega) (by omega) (by omega) (by omega) (by rw [hb]; omega) (by rw [hb]; exact growslice_fits (by omega) (by omega))
   simpa using h
  have hG := grownCap_ge w n 0 34
  have hG2 := grownCap_le_maxLen w n 0 34 (by unfold maxLen; omega)
  generalize grownCap w n 0 34 = G at *
  have hG3 : G ≤ 9223372036854775807 := by unfold maxLen at hG2; omega
  have h1 : ¬ ((n : Int) < 0) := by omega
  have h2 : (n : Int) > 0 := by omega
  have h4 : decide ((n : Int) > 0) = true := decide_eq_true h2
  have h5 : decide ((0 : Int) < (n : Int)) = true := decide_eq_true h2
  have h6 : decide ((n : Int) < 0) = false := decide_eq_false h1
  clear hi hz hs hb
  go_enter Tryz.func84, Tryz.ntmps84
  go_wp2_with (at_builtin; refine Lib.wpList_append_run _ rfl _ _ _ _ rfl _ _ rfl rfl _ _ (hrz _) ?_)
  go_ret
  refine ⟨G, .inl ⟨rfl, ⟨rfl, .inr ⟨w.heap.size, G, _, rfl, Nat.le_refl _, blk_new w.drew _, Nat.zero_le _, hG2, ?_, by simp⟩⟩, balloc (bdrew (Below.refl _ _)) _⟩⟩
  simp [Builtin.zeroCells]
  omega
set_option maxRecDepth 100000 in
set_option maxHeartbeats 2000000 in
theorem concat_u64 {D D1 : Nat → Prop} {g : Nat} {T : TypeId} {cap : Nat} (va vb : Value) (a b : List Int) (w : World) (hg : w.heap[g]? = some (.cells #[va, vb] T (0, 0))) (ha : SlU w D va a) (hal : a.length ≤ 1000000) (hb : SlU w D1 vb b) (hbl : b.length ≤ 1000000) :
  Calls Tryz.prog 65 #[.slice (some ⟨g, 0, none⟩) 2 cap] w (OwnPost w (a ++ b)) := by
 have c0 := blk_cell hg 0
 have c1 := blk_cell hg 1
 simp at c0 c1
 have hsa := ha.src u_len u_one (by decide)
 have hsb := hb.src u_len u_one (by decide)
 have HSa := Lib.hid fun (W : World) (hW : Below w.heap.size w W) => hsa.below hW
 have HSb := Lib.hid fun (W : World) (hW : Below w.heap.size w W) => hsb.below hW
 have HC := Lib.hid fun (W : World) (hW : Below w.heap.size w W) => (⟨later hW c0, later hW c1⟩ : W.cell? ⟨g, 0, none⟩ = some va ∧ W.cell? ⟨g, 1, none⟩ = some vb)
 obtain ⟨A, ca, rfl, -⟩ := ha
 obtain ⟨B, cb, rfl, -⟩ := hb
 have HLen : Hid ((a ++ b).length = a.length + b.length) := Lib.hid (by simp)
 have HFl : Hid ((a ++ b).flatMap encU = a.flatMap encU ++ b.flatMap encU) := Lib.hid (by simp)
 unfold OwnPost
 rw [HLen.out, HFl.out]
 generalize a.flatMap encU = fa at *
 generalize b.flatMap encU = fb at *
 generalize a.length = na at *
 generalize b.length = nb at *
 have w1 : wrap64 ((0 : Int) + (na : Int)) = (na : Int) := by unfold wrap64; omega
 have w2 : wrap64 ((na : Int) + (nb : Int)) = ((na + nb : Nat) : Int) := by unfold wrap64; omega
 have d1 : decide ((na : Int) < 0) = false := decide_eq_false (by omega)
 have d2 : decide (((na + nb : Nat) : Int) < 0) = false := decide_eq_false (by omega)
 have hgr := grow_nil (na + nb) w (by omega)
 have HGr := Lib.hid hgr
 have HNa := Lib.hid hal
 have HNb := Lib.hid hbl
 clear hsa hsb hgr hg
 go_enter Tryz.func65, Tryz.ntmps65
 go_wp2_with fail
 refine wp_loop_rounds 3 ?_
 rw [rounds_succ]
 go_wp2_with fail
 rw [rounds_succ]
 go_wp2_with fail
 rw [rounds_succ]
 go_wp2_with fail
 refine HGr.out.mono ?_
 rintro e w1 ⟨c1, ⟨rfl, ho, hb1⟩ | ⟨rfl, rfl⟩⟩
 ·have HO := Lib.hid ho
  have HB1 := Lib.hid hb1
  obtain ⟨k0, k1⟩ := HC.out w1 hb1
  have KC := Lib.hid hb1
  clear ho hb1
  go_wp2_with fail
  refine wp_loop_rounds 3 ?_
  rw [rounds_succ]
  go_wp2_with (at_builtin; refine wpList_app (w0 := w) w.heap.size rfl _ _ 36 34 _ 1 8 na fa rfl Tryz.underlying36 info_u64 rfl (by decide) (by decide) (.slice (some ⟨w.heap.size, 0, none⟩) 0 c1) 0 [] ?hs1 ?hx1 HO.out HB1.out HB1.out.size (by have := HNa.out; omega) ?_)
  case hs1 => rfl
  case hx1 => exact HSa.out _ HB1.out
  intro v2 w2' hO2 hB2 hg2 hat2
  obtain ⟨A2, c2, rfl⟩ := own_slice hO2
  have HO2 := Lib.hid hO2
  have HB2 := Lib.hid hB2
  obtain ⟨q0, q1⟩ := HC.out w2' hB2
  clear hO2 hB2 hg2 hat2
  go_wp2_with fail
  rw [rounds_succ]
  go_wp2_with (at_builtin; refine wpList_app (w0 := w) w.heap.size rfl _ _ 36 34 _ 1 8 nb fb rfl Tryz.underlying36 info_u64 rfl (by decide) (by decide) (.slice A2 na c2) na fa ?hs2 ?hx2 HO2.out HB2.out HB2.out.size (by have := HNa.out; have := HNb.out; omega) ?_)
  case hs2 => rfl
  case hx2 => exact HSb.out _ HB2.out
  intro v3 w3' hO3 hB3 hg3 hat3
  obtain ⟨A3, c3, rfl⟩ := own_slice hO3
  have HO3 := Lib.hid hO3
  have HB3 := Lib.hid hB3
  clear hO3 hB3 hg3 hat3
  go_wp2_with fail
  rw [rounds_succ]
  go_wp2_with fail
  go_ret
  exact ⟨_, rfl, by simpa using HO3.out, HB3.out⟩
 ·have HO : Hid (w1.ownsRow w1.heap.size 34 1 (.slice none 0 0) 0 []) := Lib.hid ⟨rfl, .inl ⟨rfl, rfl⟩⟩
  have HB1 : Hid (Below w1.heap.size w1 w1) := Lib.hid (Below.refl _ _)
  obtain ⟨k0, k1⟩ := HC.out w1 (Below.refl _ _)
  go_wp2_with fail
  refine wp_loop_rounds 3 ?_
  rw [rounds_succ]
  go_wp2_with (at_builtin; refine wpList_app (w0 := w1) w1.heap.size rfl _ _ 36 34 _ 1 8 na fa rfl Tryz.underlying36 info_u64 rfl (by decide) (by decide) (.slice none 0 0) 0 [] ?hs3 ?hx3 HO.out HB1.out HB1.out.size (by have := HNa.out; omega) ?_)
  case hs3 => rfl
  case hx3 => exact HSa.out _ HB1.out
  intro v2 w2' hO2 hB2 hg2 hat2
  obtain ⟨A2, c2, rfl⟩ := own_slice hO2
  have HO2 := Lib.hid hO2
  have HB2 := Lib.hid hB2
  obtain ⟨q0, q1⟩ := HC.out w2' hB2
  clear hO2 hB2 hg2 hat2
  go_wp2_with fail
  rw [rounds_succ]
  go_wp2_with (at_builtin; refine wpList_app (w0 := w1) w1.heap.size rfl _ _ 36 34 _ 1 8 nb fb rfl Tryz.underlying36 info_u64 rfl (by decide) (by decide) (.slice A2 na c2) na fa ?hs4 ?hx4 HO2.out HB2.out HB2.out.size (by have := HNa.out; have := HNb.out; omega) ?_)
  case hs4 => rfl
  case hx4 => exact HSb.out _ HB2.out
  intro v3 w3' hO3 hB3 hg3 hat3
  obtain ⟨A3, c3, rfl⟩ := own_slice hO3
  have HO3 := Lib.hid hO3
  have HB3 := Lib.hid hB3
  clear hO3 hB3 hg3 hat3
  go_wp2_with fail
  rw [rounds_succ]
  go_wp2_with fail
  go_ret
  exact ⟨_, rfl, by simpa using HO3.out, HB3.out⟩
set_option maxRecDepth 100000 in
set_option maxHeartbeats 1000000 in
theorem post_or {D D1 : Nat → Prop} (va vb : Value) (a b : List Int) (w : World) (ha : SlU w D va a) (hal : a.length ≤ 400000) (hb : SlU w D1 vb b) (hbl : b.length ≤ 400000) :
  Calls Tryz.prog 36 #[va, vb] w (OwnPost w (orF a b)) := by
 obtain ⟨W, hW⟩ : ∃ W, W = w.alloc (.cells #[va, vb] 36) := ⟨_, rfl⟩
 have hB : Below w.heap.size w W := by rw [hW]; exact balloc (Below.refl _ _) _
 have hg : W.heap[w.heap.size]? = some (.cells #[va, vb] 36 (0, 0)) := by rw [hW]; exact blk_new w _
 have hcc := concat_u64 (cap := 2) va vb a b W hg (ha.below hB) (by omega) (hb.below hB) (by omega)
 unfold OwnPost at hcc
 have HCc := Lib.hid hcc
 have HB := Lib.hid hB
 have HSt := Lib.hid fun (w1 : World) (v1 : Value) (h : SlU w1 (fun k => W.heap.size ≤ k) v1 (a ++ b)) => post_set v1 (a ++ b) w1 h (by rw [List.length_append]; omega)
 have HS := Lib.hid hW
 obtain ⟨A, ca, rfl, -⟩ := ha
 obtain ⟨B, cb, rfl, -⟩ := hb
 have HF : Hid (orF a b = setF (a ++ b)) := Lib.hid rfl
 unfold OwnPost
 rw [HF.out]
 generalize a ++ b = ab at *
 generalize a.length = na at *
 generalize b.length = nb at *
 clear hcc hB hg hal hbl
 go_enter Tryz.func36, Tryz.ntmps36
 go_wp2_with fail
 rw [← hW]
 refine HCc.out.mono ?_
 rintro e w1 ⟨v1, rfl, ho1, hb1⟩
 have hst := HSt.out w1 v1 (own_slc encU_len rfl ho1)
 unfold OwnPost at hst
 have HS1 := Lib.hid hst
 obtain ⟨A1, c1, rfl⟩ := own_slice ho1
 have HB1 := Lib.hid (bthen HB.out hb1)
 clear hst ho1 hb1 hW
 go_wp2_with fail
 refine HS1.out.mono ?_
 rintro e w2 ⟨v2, rfl, ho2, hb2⟩
 have HO2 := Lib.hid ho2
 have HB2 := Lib.hid (bthen HB1.out hb2)
 clear ho2 hb2
 go_wp2_with fail
 go_ret
 exact ⟨_, rfl, own_base HO2.out HB1.out.size, HB2.out⟩
end Go.Proofs.YtlhmdgaohonpbaaGreatDoor
