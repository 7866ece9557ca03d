import Derived.Test.YtlhmdgaohonpbaaGreatDoorGKA
import Derived.Deep.RegionLaw
set_option linter.unusedSimpArgs false
set_option linter.unusedVariables false
set_option linter.unusedSectionVars false
namespace Go.Proofs.YtlhmdgaohonpbaaGreatDoor
open Go.RowKit Go.Proofs.YtlhmdgaohonpbaaGreatDoor.MapRaw Go.ChangeMaps
def FailPost (pb : Nat) (cv : Value) (cs : List Ch) (p : Ps) (l : List Nc) (w : World) (n : Int) (e : Ending) (w' : World) : Prop := e = .returned (.int .i64 0) ∧ ∃ p', KTo pb cv cs p l w (failS n (p.st l)) p' w'
theorem fail_off {p : Ps} {l : List Nc} {n : Int} (h : p.e ≠ 0) : failS n (p.st l) = p.st l := by
 unfold failS
 exact if_neg h
theorem fail_on {p : Ps} {l : List Nc} {n : Int} (h : p.e = 0) : failS n (p.st l) = ⟨p.i, n, p.deep, l.map Nc.key⟩ := by
 unfold failS
 exact if_pos h
set_option maxRecDepth 100000 in
set_option maxHeartbeats 1000000 in
theorem k_fail {pb : Nat} {cv : Value} {cs : List Ch} {p : Ps} {l : List Nc} {w : World} (n : Int) (h : KAt pb cv cs p l w) :
  Calls Tryz.prog 107 #[.pointer (some ⟨pb, 0, none⟩), .int .i64 n] w (FailPost pb cv cs p l w n) := by
 unfold FailPost
 obtain ⟨c0, c1, -, -, -, c9, -⟩ := h.cells
 have c2 := h.cend
 have HK := Lib.hid h
 by_cases he : p.e = 0
 ·have hbe : (p.e == 0) = true := by simp [he]
  have hst := fail_on (l := l) (n := n) he
  have HSt := Lib.hid hst
  have f9 : w.frozen? ⟨pb, 9, none⟩ = false := free_blk (i := 9) h.blk
  have h9 := h.setE n
  have f8 : (w.setCell ⟨pb, 9, none⟩ (.int .i64 n)).frozen? ⟨pb, 8, none⟩ = false := free_blk (i := 8) h9.blk
  have h8 := h9.setBad p.en
  have HA8 : Hid (Apart (fun k => k = pb) w ((w.setCell ⟨pb, 9, none⟩ (.int .i64 n)).setCell ⟨pb, 8, none⟩ (.int .i64 p.en))) := Lib.hid ((setA _).trans (setA _) (fun _ _ h => h))
  have HK8 := Lib.hid h8
  have e2 := h9.cend
  have e8 := blk_cell h9.blk 8
  simp [Ps.cells] at e8
  have x8 := blk_cell h8.blk 8
  simp [Ps.cells] at x8
  have c8 := blk_cell h.blk 8
  simp [Ps.cells] at c8
  obtain ⟨d0, d1, -, -, -, d9, -⟩ := h8.cells
  by_cases hi : p.i < cs.length
  ·have hd : decide ((p.i : Int) < (cs.length : Int)) = true := decide_eq_true (by omega)
   have hi0 : (0 : Int) ≤ (p.i : Int) := by omega
   have hi1 : (p.i : Int) < (cs.length : Int) := by omega
   obtain ⟨A, c, rfl, hR⟩ := h8.chars
   obtain ⟨b, off, rfl, z⟩ := hR _ _ (List.getElem?_eq_getElem hi)
   have z1 := z 1 _ rfl
   have hne : b ≠ pb := by
    rintro rfl
    obtain ⟨A2, c2, hA2, q1, q2, q3, q4, q5⟩ := h8.chr
    simp only [Value.slice.injEq] at hA2
    obtain ⟨rfl, -, -⟩ := hA2
    have := (q4 _ rfl (fun e => by rw [e] at hi; exact absurd hi (by simp))).2.1
    simp at this
   generalize cs[p.i] = x at *
   have HFin := Lib.hid (fun (W : World) (hW : Below ((w.setCell ⟨pb, 9, none⟩ (.int .i64 n)).setCell ⟨pb, 8, none⟩ (.int .i64 p.en)).heap.size ((w.setCell ⟨pb, 9, none⟩ (.int .i64 n)).setCell ⟨pb, 8, none⟩ (.int .i64 p.en)) W) => (show KTo pb (.slice (some ⟨b, off, none⟩) cs.length c) cs p l w (failS n (p.st l)) _ (W.setCell ⟨pb, 8, none⟩ (.int .i64 x.at_)) from ⟨(HK8.out.below hW).setBad x.at_, rfl, HSt.out.symm, (HA8.out.then hW).trans (setA _) (fun _ _ h => h)⟩))
   have HFz := Lib.hid fun (W : World) (hW : Below ((w.setCell ⟨pb, 9, none⟩ (.int .i64 n)).setCell ⟨pb, 8, none⟩ (.int .i64 p.en)).heap.size ((w.setCell ⟨pb, 9, none⟩ (.int .i64 n)).setCell ⟨pb, 8, none⟩ (.int .i64 p.en)) W) => (free_blk (i := 8) (HK8.out.below hW).blk : W.frozen? ⟨pb, 8, none⟩ = false)
   clear h h9 h8 hR z hst he HK HK8 HA8 HSt
   generalize cs.length = m at *
   generalize p.i = i at *
   generalize p.en = en at *
   generalize p.e = pe at *
   go_enter Tryz.func107, Tryz.ntmps107
   go_wp2_with fail
   generalize (w.setCell ⟨pb, 9, none⟩ (.int .i64 n)).setCell ⟨pb, 8, none⟩ (.int .i64 en) = W at *
   go_quiet (fail)
   go_wp2_with fail
   have hq : Below W.heap.size W (W.drewN nq).drew := bdrew (bdr (Below.refl _ _) _)
   have y0 : (W.drewN nq).drew.cell? ⟨pb, 0, none⟩ = some (.slice (some ⟨b, off, none⟩) m c) := d0
   have y1 : (W.drewN nq).drew.cell? ⟨pb, 1, none⟩ = some (.int .i64 i) := d1
   have y2 : (W.drewN nq).drew.cell? ⟨b, off + i * 2 + 1, none⟩ = some (.int .i64 x.at_) := z1
   have y8 : (W.drewN nq).drew.cell? ⟨pb, 8, none⟩ = some (.int .i64 en) := x8
   have y3 : (W.drewN nq).drew.frozen? ⟨pb, 8, none⟩ = false := HFz.out _ hq
   have HX := Lib.hid (HFin.out _ hq)
   clear hq d0 d1 z1
   generalize W.drewN nq = W2 at *
   go_region_law (fail)
   all_goals
    go_wp2_with fail
    go_ret
    exact ⟨rfl, _, HX.out⟩
  ·have hd : decide ((p.i : Int) < (cs.length : Int)) = false := decide_eq_false (by omega)
   obtain ⟨A, c, rfl, hR⟩ := h8.chars
   have HFin := Lib.hid (fun (k : Nat) => (show KTo pb (.slice A cs.length c) cs p l w (failS n (p.st l)) _ (((w.setCell ⟨pb, 9, none⟩ (.int .i64 n)).setCell ⟨pb, 8, none⟩ (.int .i64 p.en)).drewN k) from ⟨HK8.out.below (bdr (Below.refl _ _) k), rfl, HSt.out.symm, HA8.out.drewN k⟩))
   clear h h9 h8 hR hst he HK HK8 HA8 HSt
   generalize cs.length = m at *
   generalize p.i = i at *
   generalize p.en = en at *
   generalize p.e = pe at *
   go_enter Tryz.func107, Tryz.ntmps107
   go_wp2_with fail
   generalize (w.setCell ⟨pb, 9, none⟩ (.int .i64 n)).setCell ⟨pb, 8, none⟩ (.int .i64 en) = W at *
   go_quiet (fail)
   go_wp2_with fail
   go_ret
   exact ⟨rfl, _, HFin.out _⟩
 ·have hbe : (p.e == 0) = false := by simp [he]
  have hst := fail_off (l := l) (n := n) he
  have HFin : Hid (KTo pb cv cs p l w (failS n (p.st l)) p w) := Lib.hid (by rw [hst]; exact KTo.refl h)
  clear h hst he HK
  generalize p.e = pe at *
  go_enter Tryz.func107, Tryz.ntmps107
  go_wp2_with fail
  go_ret
  exact ⟨rfl, _, HFin.out⟩
end Go.Proofs.YtlhmdgaohonpbaaGreatDoor

namespace Go.Proofs.YtlhmdgaohonpbaaGreatDoor
open Go.RowKit Go.Proofs.YtlhmdgaohonpbaaGreatDoor.MapRaw Go.ChangeMaps
theorem info_nd : (Tryz.prog.info? 183).map (fun i => (i.zero, i.size, i.bytes)) = some (some (.agg #[.int .i64 0, .int .i64 0, .int .i64 0, .slice none 0 0, .bool false]), 5, 56) := by kernel_rfl
section
variable {pb : Nat} {cv : Value} {cs : List Ch} {p : Ps} {l : List Nc} {w W W1 : World} {v1 : Value} {x : Nc}
theorem KAt.push (h : KAt pb cv cs p l w) (hW : Below w.heap.size w W) (hs : Slc 2 Sp.enc w (fun k => pb < k ∧ p.lv.ownBlock ≠ some k) x.sv x.set) (hO : W1.ownsRow (pb + 1) 183 5 v1 (l.length + 1) (l.flatMap Nc.enc ++ x.enc)) (hg : W.grownBy W1 p.lv.ownBlock) (hat : v1.ownBlock = p.lv.ownBlock ∨ v1.ownBlock = some W.heap.size) :
  KAt pb cv cs { p with lv := v1 } (l ++ [x]) (W1.setCell ⟨pb, 3, none⟩ v1) ∧ Apart (fun k => pb ≤ k) w (W1.setCell ⟨pb, 3, none⟩ v1) := by
 have hlt := h.lt
 have hws := hW.size
 have hgs := hg.size
 have hown : ∀ k, p.lv.ownBlock = some k → pb < k ∧ k < w.heap.size := fun k hk => by have := ownsRow_blk h.row k hk; omega
 have hown1 : ∀ k, v1.ownBlock = some k → pb < k ∧ (p.lv.ownBlock = some k ∨ w.heap.size ≤ k) := fun k hk => by
  rcases hat with e | e
  ·rw [e] at hk; exact ⟨(hown k hk).1, .inl hk⟩
  ·rw [e] at hk; cases hk; exact ⟨by omega, .inr hws⟩
 have hsz : (W1.setCell ⟨pb, 3, none⟩ v1).heap.size = W1.heap.size := by simp [World.setCell]
 have hblk : ∀ k, k < w.heap.size → k ≠ pb → p.lv.ownBlock ≠ some k → (W1.setCell ⟨pb, 3, none⟩ v1).heap[k]? = w.heap[k]? := fun k hk hne ho => by
  rw [Below.heap_setCell _ _ _ _ (show k ≠ pb from hne)]
  exact (hg.block k (by omega) (fun e => ho e.symm)).trans (hW.block k hk)
 have hA : Apart (fun k => pb ≤ k) w (W1.setCell ⟨pb, 3, none⟩ v1) := ((below_apart hW (fun k => pb ≤ k)).grown hg (fun k hk => .inl (Nat.le_of_lt (hown k hk).1))).setC ⟨pb, 3, none⟩ (.inl (Nat.le_refl _)) v1
 have hpb1 : W1.heap[pb]? = some (.cells (p.cells cv) 155 (0, 0)) := (hg.block pb (by omega) (fun e => by have := (hown pb e.symm).1; omega)).trans ((hW.block pb hlt).trans h.blk)
 have hset : ∀ (sv : Value) (set : List Sp), Slc 2 Sp.enc w (fun k => pb < k ∧ p.lv.ownBlock ≠ some k) sv set → Slc 2 Sp.enc (W1.setCell ⟨pb, 3, none⟩ v1) (fun k => pb < k ∧ v1.ownBlock ≠ some k) sv set := fun sv set hh =>
  Slc.to hh (by omega) (fun k hk hD => hblk k hk (by omega) hD.2) (fun k hk hD => ⟨hD.1, fun e => by rcases (hown1 k e).2 with g | g; exact hD.2 g; omega⟩)
 refine ⟨⟨by rw [setCell_blk (i := 3) v1 hpb1]; rfl, h.chr.move (by omega) (fun k hk hD => hblk k hk (by omega) (fun e => by have := (hown k e).1; omega)), h.hi, h.len, ?_, ?_⟩, hA⟩
 ·have h2 : W1.ownsRow (pb + 1) 183 5 v1 (l ++ [x]).length ((l ++ [x]).flatMap Nc.enc) := by simpa using hO
  exact ownsRow_move h2 (fun k hk => Below.heap_setCell _ _ _ _ (show k ≠ pb by have := (hown1 k hk).1; omega))
 ·intro y hy
  rcases List.mem_append.1 hy with hy | hy
  ·exact hset _ _ (h.sets y hy)
  ·simp at hy; subst hy; exact hset _ _ hs
end
def AddKPost (pb : Nat) (cv : Value) (cs : List Ch) (p : Ps) (l : List Nc) (x : Nc) (w : World) (e : Ending) (w' : World) : Prop :=
 e = .returned (.int .i64 l.length) ∧ ∃ v', KAt pb cv cs { p with lv := v' } (l ++ [x]) w' ∧ Apart (fun k => pb ≤ k) w w'
theorem nc_one {x : Nc} {w : World} {D : Nat → Prop} (h : Slc 2 Sp.enc w D x.sv x.set) : ∀ u ∈ x.enc, u.oneCell' = true := by
 obtain ⟨A, c, e, -⟩ := h
 intro u hu
 simp only [Nc.enc, List.mem_cons, List.not_mem_nil, or_false] at hu
 rcases hu with rfl | rfl | rfl | rfl | rfl
 ·rfl
 ·rfl
 ·rfl
 ·rw [e]; rfl
 ·rfl
set_option maxRecDepth 100000 in
set_option maxHeartbeats 2000000 in
theorem k_add {pb : Nat} {cv : Value} {cs : List Ch} {p : Ps} {l : List Nc} {w : World} (x : Nc) (h : KAt pb cv cs p l w) (hs : Slc 2 Sp.enc w (fun k => pb < k ∧ p.lv.ownBlock ≠ some k) x.sv x.set) (hn : l.length ≤ 100000) :
  Calls Tryz.prog 133 #[.pointer (some ⟨pb, 0, none⟩), .agg #[.int .i64 x.kind, .int .i64 x.a, .int .i64 x.b, x.sv, .bool x.but]] w (AddKPost pb cv cs p l x w) := by
 unfold AddKPost
 have HPush := Lib.hid fun (W W1 : World) (v1 : Value) (hW : Below w.heap.size w W) => KAt.push (W := W) (W1 := W1) (v1 := v1) h (x := x) hW hs
 have HOne := Lib.hid (nc_one hs)
 have HK := Lib.hid h
 have hpl := h.lt
 obtain ⟨A, c, hlv⟩ : ∃ A c, p.lv = .slice A l.length c := own_slice h.row
 obtain ⟨As, c2, hsv, -⟩ := hs
 obtain ⟨-, -, c3, -⟩ := h.cells
 have HLv := Lib.hid hlv
 have HRow := Lib.hid h.row
 have hne1 : some pb ≠ p.lv.ownBlock := fun e => by have := (ownsRow_blk h.row pb e.symm).1; omega
 have f3 := free_blk (i := 3) h.blk
 have henc : x.enc = [.int .i64 x.kind, .int .i64 x.a, .int .i64 x.b, x.sv, .bool x.but] := rfl
 rw [hlv] at c3 HRow hne1 HPush
 rw [hsv] at henc
 have HEnc := Lib.hid henc
 have N1 := Lib.hid hne1
 clear h hne1 hlv
 rw [hsv]
 generalize x.enc = xe at *
 generalize x.kind = k1 at *
 generalize x.a = k2 at *
 generalize x.b = k3 at *
 generalize x.but = k4 at *
 generalize hln : l.length = n at *
 generalize x.set.length = ns at *
 clear hln hsv henc
 have HB0 : Hid (Below w.heap.size w (w.alloc (.cells #[.int .i64 k1, .int .i64 k2, .int .i64 k3, .slice As ns c2, .bool k4] 183))) := Lib.hid (balloc (Below.refl _ _) _)
 have x0 : (w.alloc (.cells #[.int .i64 k1, .int .i64 k2, .int .i64 k3, .slice As ns c2, .bool k4] 183)).cell? ⟨w.heap.size, 0, none⟩ = some (.int .i64 k1) := by simp
 have x1 : (w.alloc (.cells #[.int .i64 k1, .int .i64 k2, .int .i64 k3, .slice As ns c2, .bool k4] 183)).cell? ⟨w.heap.size, 1, none⟩ = some (.int .i64 k2) := by simp
 have x2 : (w.alloc (.cells #[.int .i64 k1, .int .i64 k2, .int .i64 k3, .slice As ns c2, .bool k4] 183)).cell? ⟨w.heap.size, 2, none⟩ = some (.int .i64 k3) := by simp
 have x3 : (w.alloc (.cells #[.int .i64 k1, .int .i64 k2, .int .i64 k3, .slice As ns c2, .bool k4] 183)).cell? ⟨w.heap.size, 3, none⟩ = some (.slice As ns c2) := by simp
 have x4 : (w.alloc (.cells #[.int .i64 k1, .int .i64 k2, .int .i64 k3, .slice As ns c2, .bool k4] 183)).cell? ⟨w.heap.size, 4, none⟩ = some (.bool k4) := by simp
 have y3 := later HB0.out c3
 have HRow1 := Lib.hid (own_below HRow.out HB0.out)
 have HPb1 := Lib.hid (blk_below HK.out.blk HB0.out)
 have hs1 := HB0.out.size
 clear HRow c3 f3
 have HS1 := Lib.hid hs1
 clear hs1
 go_enter Tryz.func133, Tryz.ntmps133
 go_wp2_with fail
 generalize w.alloc (.cells #[.int .i64 k1, .int .i64 k2, .int .i64 k3, .slice As ns c2, .bool k4] 183) = w3 at *
 have z0 : w3.drew.cell? ⟨w.heap.size, 0, none⟩ = some (.int .i64 k1) := x0
 have z1 : w3.drew.cell? ⟨w.heap.size, 1, none⟩ = some (.int .i64 k2) := x1
 have z2 : w3.drew.cell? ⟨w.heap.size, 2, none⟩ = some (.int .i64 k3) := x2
 have z3 : w3.drew.cell? ⟨w.heap.size, 3, none⟩ = some (.slice As ns c2) := x3
 have z4 : w3.drew.cell? ⟨w.heap.size, 4, none⟩ = some (.bool k4) := x4
 have u3 : w3.drew.cell? ⟨pb, 3, none⟩ = some (.slice A n c) := y3
 have r0 : Below w3.heap.size w3 (w3.alloc (.cells #[.int .i64 k1, .int .i64 k2, .int .i64 k3, .slice As ns c2, .bool k4] 183)).drew := bdrew (balloc (Below.refl _ _) _)
 have v3 : (w3.alloc (.cells #[.int .i64 k1, .int .i64 k2, .int .i64 k3, .slice As ns c2, .bool k4] 183)).cell? ⟨pb, 3, none⟩ = some (.slice A n c) := later r0 y3
 go_region_law (first | (refine step_app2 (o := ⟨some 13, _, _, _, _, _⟩) (w0 := w3) (W0 := w3) (pb + 1) rfl _ _ 151 183 _ 5 56 1 [.int .i64 k1, .int .i64 k2, .int .i64 k3, .slice As ns c2, .bool k4] rfl Tryz.underlying151 info_nd rfl (by decide) (by decide) (.slice A n c) n (l.flatMap Nc.enc) rfl _ rfl (src_block (blk_new w3 _) rfl (by have := HOne.out; rw [HEnc.out] at this; exact this) _) HRow1.out (Below.refl _ _) (by have := HS1.out; omega) r0 (by omega) ?_; intro v1 w4 hO1 hB1 hg1 hat1; obtain ⟨A5, c5, rfl⟩ := own_slice hO1; have g3 := hg1.cell (later r0 y3) N1.out; have f3 : w4.frozen? ⟨pb, 3, none⟩ = false := free_blk (i := 3) (blk_grown (blk_below HPb1.out r0) hg1 N1.out)))
 all_goals
  have HFin := Lib.hid (HPush.out _ w4 _ (bthen HB0.out r0) (by rw [HEnc.out]; exact hO1) hg1 hat1)
  clear hO1 hB1 hg1 hat1
  go_wp2_with fail
  go_ret
  exact ⟨by simp, _, HFin.out⟩
end Go.Proofs.YtlhmdgaohonpbaaGreatDoor

namespace Go.Proofs.YtlhmdgaohonpbaaGreatDoor
open Go.RowKit Go.Proofs.YtlhmdgaohonpbaaGreatDoor.MapRaw Go.ChangeMaps
set_option maxRecDepth 100000 in
set_option maxHeartbeats 1000000 in
theorem k_special (c : Int) (w : World) : Calls Tryz.prog 157 #[.int .i32 c] w fun e w' => e = .returned (.bool (specialF c)) ∧ w' = w := by
 by_cases h : specialF c = true
 ·have hc : c = 46 ∨ c = 42 ∨ c = 43 ∨ c = 63 ∨ c = 40 ∨ c = 41 ∨ c = 91 ∨ c = 93 ∨ c = 123 ∨ c = 125 ∨ c = 124 ∨ c = 94 ∨ c = 36 ∨ c = 92 := by
   unfold specialF at h
   simp at h
   omega
  rw [h]
  clear h
  rcases hc with rfl | rfl | rfl | rfl | rfl | rfl | rfl | rfl | rfl | rfl | rfl | rfl | rfl | rfl
  all_goals
   go_enter Tryz.func157, Tryz.ntmps157
   go_wp2
   go_ret
   exact ⟨rfl, rfl⟩
 ·have h' : specialF c = false := by simpa using h
  have hc : (c == 46) = false ∧ (c == 42) = false ∧ (c == 43) = false ∧ (c == 63) = false ∧ (c == 40) = false ∧ (c == 41) = false ∧ (c == 91) = false ∧ (c == 93) = false ∧ (c == 123) = false ∧ (c == 125) = false ∧ (c == 124) = false ∧ (c == 94) = false ∧ (c == 36) = false ∧ (c == 92) = false := by
   unfold specialF at h
   simp at h
   simp only [beq_eq_false_iff_ne, ne_eq]
   omega
  rw [h']
  clear h h'
  obtain ⟨e1, e2, e3, e4, e5, e6, e7, e8, e9, e10, e11, e12, e13, e14⟩ := hc
  go_enter Tryz.func157, Tryz.ntmps157
  go_wp2
  go_ret
  exact ⟨rfl, rfl⟩
def OwnR (w : World) (base : Nat) (v : Value) (l : List Sp) : Prop := w.ownsRow base 214 2 v l.length (l.flatMap Sp.enc)
def GroupPost (w : World) (l : List Sp) (e : Ending) (w' : World) : Prop := ∃ v, e = .returned v ∧ OwnR w' w.heap.size v l ∧ (l = [] → v = .slice none 0 0) ∧ Below w.heap.size w w'
set_option maxRecDepth 100000 in
set_option maxHeartbeats 1000000 in
theorem k_group (c : Int) (w : World) : Calls Tryz.prog 164 #[.int .i32 c] w (GroupPost w (groupR c)) := by
 unfold groupR
 by_cases h1 : c = 100
 ·subst h1
  rw [if_pos rfl]
  go_enter Tryz.func164, Tryz.ntmps164
  go_wp2
  go_ret
  exact ⟨_, rfl, own_new (n := 1) (sz := 2) rfl (by decide), (fun e => by cases e), balloc (Below.refl _ _) _⟩
 ·rw [if_neg h1]
  have e1 : (c == 100) = false := by simpa using h1
  by_cases h2 : c = 119
  ·subst h2
   rw [if_pos rfl]
   go_enter Tryz.func164, Tryz.ntmps164
   go_wp2
   go_ret
   exact ⟨_, rfl, own_new (n := 4) (sz := 2) rfl (by decide), (fun e => by cases e), balloc (Below.refl _ _) _⟩
  ·rw [if_neg h2]
   have e2 : (c == 119) = false := by simpa using h2
   by_cases h3 : c = 115
   ·subst h3
    rw [if_pos rfl]
    go_enter Tryz.func164, Tryz.ntmps164
    go_wp2
    go_ret
    exact ⟨_, rfl, own_new (n := 2) (sz := 2) rfl (by decide), (fun e => by cases e), balloc (Below.refl _ _) _⟩
   ·rw [if_neg h3]
    have e3 : (c == 115) = false := by simpa using h3
    clear h1 h2 h3
    go_enter Tryz.func164, Tryz.ntmps164
    go_wp2
    go_ret
    exact ⟨_, rfl, ⟨rfl, .inl ⟨rfl, rfl⟩⟩, fun _ => rfl, Below.refl _ _⟩
theorem own_r1 {W : World} {base : Nat} {v : Value} {y : Sp} (h : OwnR W base v [y]) : ∃ b off c, v = .slice (some ⟨b, off, none⟩) 1 c ∧ W.cell? ⟨b, off, none⟩ = some (.int .i32 y.lo) ∧ W.cell? ⟨b, off + 1, none⟩ = some (.int .i32 y.hi) := by
 obtain ⟨A, c, rfl, -, -, -, -, hR⟩ := own_slc (enc := Sp.enc) (fun _ => rfl) rfl h
 obtain ⟨b, off, rfl, hc⟩ := hR 0 y rfl
 have z := hc 0 _ rfl
 have z1 := hc 1 _ rfl
 simp at z z1
 exact ⟨b, off, c, rfl, z, z1⟩
set_option maxRecDepth 100000 in
set_option maxHeartbeats 1000000 in
theorem k_wide {base : Nat} {v : Value} {l : List Sp} (w : World) (h : OwnR w base v l) : Calls Tryz.prog 156 #[v] w fun e w' => e = .returned (.bool (wideR l)) ∧ Below w.heap.size w w' := by
 by_cases h1 : l.length = 1
 ·obtain ⟨x, rfl⟩ : ∃ x, l = [x] := by
   cases l with
   | nil => simp at h1
   | cons x t => cases t with
    | nil => exact ⟨x, rfl⟩
    | cons _ _ => simp at h1
  obtain ⟨b, off, c, rfl, z0, z1⟩ := own_r1 h
  have hw : wideR [x] = !decide (x.lo = x.hi) := rfl
  rw [hw]
  obtain ⟨x0, x1⟩ := x
  simp only at z0 z1 ⊢
  clear h h1 hw
  go_enter Tryz.func156, Tryz.ntmps156
  go_wp2_with fail
  go_quiet (fail)
  go_wp2_with fail
  go_ret
  refine ⟨ret_bool ?_, bdr (Below.refl _ _) _⟩
  by_cases g : x0 = x1
  ·simp [g]
  ·simp [g]
 ·obtain ⟨A, c, rfl⟩ := own_slice h
  have hw : wideR l = true := by
   cases l with
   | nil => rfl
   | cons x t => cases t with
    | nil => simp at h1
    | cons _ _ => rfl
  rw [hw]
  have hb : ((l.length : Int) != 1) = true := by simp; omega
  generalize l.length = n at *
  have hb2 : (n == 1) = false := by simpa using h1
  have hb3 : (n != 1) = true := by simpa using h1
  clear h h1 hw
  go_enter Tryz.func156, Tryz.ntmps156
  go_wp2_with fail
  go_quiet (fail)
  go_wp2_with fail
  go_ret
  exact ⟨rfl, bdr (Below.refl _ _) _⟩
end Go.Proofs.YtlhmdgaohonpbaaGreatDoor

namespace Go.Proofs.YtlhmdgaohonpbaaGreatDoor
open Go.RowKit Go.Proofs.YtlhmdgaohonpbaaGreatDoor.MapRaw Go.ChangeMaps
def EscKPost (pb : Nat) (cv : Value) (cs : List Ch) (p : Ps) (l : List Nc) (w : World) (r : List Sp × St) (e : Ending) (w' : World) : Prop :=
 ∃ v p', e = .returned v ∧ OwnR w' w.heap.size v r.1 ∧ KTo pb cv cs p l w r.2 p' w'
theorem i_wrap {i n : Nat} (h : i ≤ n) (hn : n ≤ 256) : IntKind.i64.wrap ((i : Int) + 1) = (i : Int) + 1 := IntWalk.i64_in _ (by omega)
theorem KAt.inc {pb : Nat} {cv : Value} {cs : List Ch} {p : Ps} {l : List Nc} {w : World} (h : KAt pb cv cs p l w) (hlt : p.i < cs.length) : KAt pb cv cs { p with i := p.i + 1 } l (w.setCell ⟨pb, 1, none⟩ (.int .i64 ((p.i : Int) + 1))) := h.setI (n := p.i + 1) hlt
theorem ownR_one {W : World} {c d : Int} (base : Nat) (hb : base ≤ W.heap.size) : OwnR (W.alloc (.cells #[.int .i32 c, .int .i32 d] 214)) base (.slice (some ⟨W.heap.size, 0, none⟩) 1 1) [⟨c, d⟩] :=
 own_shift (own_new (n := 1) (sz := 2) (T := 214) (cs := #[.int .i32 c, .int .i32 d]) rfl (by decide)) hb
theorem ownR_at {W : World} {c d : Int} {n : Nat} (base : Nat) (hn : n = W.heap.size) (hb : base ≤ W.heap.size) : OwnR (W.alloc (.cells #[.int .i32 c, .int .i32 d] 214)) base (.slice (some ⟨n, 0, none⟩) 1 1) [⟨c, d⟩] := by rw [hn]; exact ownR_one base hb
theorem setc_size (w : World) (a : Addr) (v : Value) : (w.setCell a v).heap.size = w.heap.size := by simp [World.setCell]
set_option maxRecDepth 100000 in
set_option maxHeartbeats 2000000 in
theorem k_escape {pb : Nat} {cv : Value} {cs : List Ch} {p : Ps} {l : List Nc} {w : World} (h : KAt pb cv cs p l w) (h92 : rnF (codes cs) (p.st l) = 92) :
  Calls Tryz.prog 155 #[.pointer (some ⟨pb, 0, none⟩)] w (EscKPost pb cv cs p l w (escR (codes cs) (p.st l))) := by
 unfold EscKPost
 obtain ⟨-, hil, -⟩ := now_lt (st := p.st l) (cs := codes cs) (by omega)
 have hil' : p.i < cs.length := by simpa [codes, Ps.st] using hil
 obtain ⟨-, c1, -⟩ := h.cells
 have f1 := free_blk (i := 1) h.blk
 have hwr := i_wrap (Nat.le_of_lt hil') h.len
 have h1 := h.inc hil'
 have HT1 : Hid (KTo pb cv cs p l w (stepI (p.st l)) { p with i := p.i + 1 } (w.setCell ⟨pb, 1, none⟩ (.int .i64 ((p.i : Int) + 1)))) := Lib.hid ⟨h1, rfl, rfl, setA _⟩
 have hwsz : w.heap.size ≤ (w.setCell ⟨pb, 1, none⟩ (.int .i64 ((p.i : Int) + 1))).heap.size := by simp [World.setCell]
 have HWsz := Lib.hid hwsz
 obtain ⟨p1, hp1⟩ : ∃ p1, p1 = { p with i := p.i + 1 } := ⟨_, rfl⟩
 have hst : stepI (p.st l) = p1.st l := by rw [hp1]; rfl
 rw [← hp1, hst] at HT1
 have hef : escR (codes cs) (p.st l) = if escOk (rnF (codes cs) (p1.st l)) = true then ([⟨rnF (codes cs) (p1.st l), rnF (codes cs) (p1.st l)⟩], stepI (p1.st l)) else if groupR (rnF (codes cs) (p1.st l)) = [] then ([], failS 8 (p1.st l)) else (groupR (rnF (codes cs) (p1.st l)), stepI (p1.st l)) := by unfold escR; rw [hst]
 have hnow : rnF (codes cs) (p1.st l) ≠ -2 → p1.i < cs.length := fun e => by have := (now_lt e).2.1; simpa [codes, Ps.st] using this
 have HNow := Lib.hid hnow
 have HCall := Lib.hid (k_now HT1.out.at_)
 have HLen := Lib.hid h.len
 have hplt := h.lt
 have HPlt := Lib.hid hplt
 clear hst hnow h hil hil' h1 hwsz h92 hp1 hplt
 generalize rnF (codes cs) (p1.st l) = c at *
 generalize escR (codes cs) (p.st l) = res at *
 have HEf := Lib.hid hef
 clear hef
 -- behind an 'i++' at a world W that is a later one
 have HStep : Hid (∀ W, KTo pb cv cs p l w (p1.st l) p1 W → p1.i < cs.length → KTo pb cv cs p l w (stepI (p1.st l)) { p1 with i := p1.i + 1 } (W.setCell ⟨pb, 1, none⟩ (.int .i64 ((p1.i : Int) + 1)))) := Lib.hid fun W hW hlt => ⟨hW.at_.inc hlt, hW.lv, rfl, hW.apart.trans (setA _) (fun _ _ h => h)⟩
 by_cases hok : escOk c = true
 ·have hres : res = ([⟨c, c⟩], stepI (p1.st l)) := by rw [HEf.out, if_pos hok]
  have h0 := esc_now hok
  have hlt := HNow.out (by omega)
  have hw2 := i_wrap (Nat.le_of_lt hlt) HLen.out
  have HLt := Lib.hid hlt
  have hcs : specialF c = true ∨ (specialF c = false ∧ (c == 45) = true) ∨ (specialF c = false ∧ (c == 45) = false ∧ (c == 47) = true) := by
   unfold escOk at hok
   cases hs : specialF c with
   | true => exact .inl rfl
   | false =>
    rw [hs] at hok
    simp at hok
    by_cases h45 : c = 45
    ·exact .inr (.inl ⟨rfl, by simpa using h45⟩)
    ·exact .inr (.inr ⟨rfl, by simpa using h45, by simp; omega⟩)
  have hd : decide (c ≥ 0) = true := decide_eq_true h0
  have hd2 : decide (0 ≤ c) = true := decide_eq_true h0
  rw [hres]
  clear hok h0 hlt hres HEf
  have HSp := Lib.hid fun (W : World) => k_special c W
  generalize specialF c = sp at *
  rcases hcs with rfl | ⟨rfl, e45⟩ | ⟨rfl, e45, e47⟩
  all_goals
   go_enter Tryz.func155, Tryz.ntmps155
   go_wp2_with fail
   generalize w.setCell ⟨pb, 1, none⟩ (.int .i64 ((p.i : Int) + 1)) = W at *
   refine HCall.out.mono ?_
   rintro e w1 ⟨rfl, hb1⟩
   have HT2 := Lib.hid (HT1.out.below hb1)
   have HS2 := Lib.hid (Nat.le_trans HWsz.out hb1.size)
   have q1 := HT2.out.at_.cells.2.1
   have q2 := free_blk (i := 1) HT2.out.at_.blk
   clear hb1 c1 f1
   go_wp2_with fail
   refine (HSp.out _).mono ?_
   rintro e w2 ⟨rfl, rfl⟩
   go_wp2_with fail
   go_ret
   exact ⟨_, _, rfl, ownR_at _ (setc_size _ _ _).symm (by rw [setc_size]; exact HS2.out), (HStep.out _ HT2.out HLt.out).below (balloc (Below.refl _ _) _)⟩
 ·have hoff : escOk c = false := by simpa using hok
  have hcs : (decide (c ≥ 0) = false ∧ decide (0 ≤ c) = false) ∨ (decide (c ≥ 0) = true ∧ decide (0 ≤ c) = true ∧ specialF c = false ∧ (c == 45) = false ∧ (c == 47) = false) := by
   by_cases h0 : 0 ≤ c
   ·unfold escOk at hoff
    simp [h0] at hoff
    exact .inr ⟨decide_eq_true h0, decide_eq_true h0, hoff.1.1, by simpa using hoff.1.2, by simpa using hoff.2⟩
   ·exact .inl ⟨decide_eq_false h0, decide_eq_false h0⟩
  have HG := Lib.hid fun (W : World) => k_group c W
  have hpg : groupR c ≠ [] → p1.i < cs.length := fun g => HNow.out (by have := group_now g; omega)
  have HPg := Lib.hid hpg
  have hres : res = if groupR c = [] then ([], failS 8 (p1.st l)) else (groupR c, stepI (p1.st l)) := by rw [HEf.out, if_neg hok]
  have HRes := Lib.hid hres
  clear hok hoff HEf hpg hres
  have HSp := Lib.hid fun (W : World) => k_special c W
  generalize specialF c = sp at *
  generalize groupR c = g at *
  have hb0 : (g.length == 0) = decide (g = []) := by cases g <;> simp
  rcases hcs with ⟨hd, hd2⟩ | ⟨hd, hd2, rfl, e45, e47⟩
  all_goals
   go_enter Tryz.func155, Tryz.ntmps155
   go_wp2_with fail
   generalize w.setCell ⟨pb, 1, none⟩ (.int .i64 ((p.i : Int) + 1)) = W at *
   refine HCall.out.mono ?_
   rintro e w1 ⟨rfl, hb1⟩
   have HT2 := Lib.hid (HT1.out.below hb1)
   have HS2 := Lib.hid (Nat.le_trans HWsz.out hb1.size)
   clear hb1 c1 f1
   go_wp2_with fail
   try
    refine (HSp.out _).mono ?_
    rintro e w2 ⟨rfl, rfl⟩
    go_wp2_with fail
   refine (HG.out _).mono ?_
   rintro e w3 ⟨gv, rfl, hO, hgn, hb3⟩
   have HT3 := Lib.hid (HT2.out.below hb3)
   have HO3 := Lib.hid (own_shift hO HS2.out)
   obtain ⟨A, cc, rfl⟩ := own_slice hO
   have q1 := HT3.out.at_.cells.2.1
   have q2 := free_blk (i := 1) HT3.out.at_.blk
   clear hO hb3
   by_cases hg : g = []
   ·subst hg
    have hr2 : res = ([], failS 8 (p1.st l)) := by rw [HRes.out]; rfl
    clear hgn hb0 q1 q2
    go_wp2_with fail
    refine (k_fail 8 HT3.out.at_).mono ?_
    rintro e w4 ⟨rfl, p4, h4⟩
    have HT4 := Lib.hid (HT3.out.then h4)
    clear h4
    go_wp2_with fail
    go_ret
    rw [hr2]
    exact ⟨_, _, rfl, ⟨rfl, .inl ⟨rfl, rfl⟩⟩, HT4.out⟩
   ·have hr2 : res = (g, stepI (p1.st l)) := by rw [HRes.out, if_neg hg]
    have hlt := HPg.out hg
    have hw2 := i_wrap (Nat.le_of_lt hlt) HLen.out
    have HLt := Lib.hid hlt
    have hgl : (g.length == 0) = false := by rw [hb0]; simpa using hg
    have hgl2 : ((g.length : Int) == 0) = false := by simpa using hg
    have HMv : Hid (∀ W, OwnR W w.heap.size (.slice A g.length cc) g → KTo pb cv cs p l w (p1.st l) p1 W → OwnR (W.setCell ⟨pb, 1, none⟩ (.int .i64 ((p1.i : Int) + 1))) w.heap.size (.slice A g.length cc) g) := Lib.hid fun W h1 h2 => ownsRow_move h1 (fun k hk => Below.heap_setCell _ _ _ _ (show k ≠ pb by have := (ownsRow_blk h1 k hk).1; have := HPlt.out; omega))
    clear hlt hgn hb0 hg
    go_wp2_with fail
    go_ret
    rw [hr2]
    exact ⟨_, _, rfl, HMv.out _ HO3.out HT3.out, HStep.out _ HT3.out HLt.out⟩
end Go.Proofs.YtlhmdgaohonpbaaGreatDoor
