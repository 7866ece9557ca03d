import Derived.Test.YtbjglcdoekbloaaGreatDoorGBase
import Derived.Deep.Upon
import Derived.Test.YtbjglcdoekbloaaGreatDoorGRwA
import Derived.Deep.RegionHeld3
import Derived.Test.YtbjglcdoekbloaaGreatDoorGRwB
set_option linter.unusedSimpArgs false
set_option linter.unusedVariables false
set_option linter.unusedSectionVars false
/- append to a literal that has nothing: no old block turns. -/
namespace Go.Proofs.YtbjglcdoekbloaaGreatDoor
open Go.RowKit

theorem own_lit {w : World} {g sz : Nat} {e : TypeId} (hg : w.heap[g]? = some (.cells #[] e (0, 0))) : w.ownsRow g e sz (.slice (some ⟨g, 0, none⟩) 0 0) 0 [] :=
  ⟨by simp, .inr ⟨g, 0, #[], rfl, Nat.le_refl _, hg, Nat.le_refl _, by simp [maxLen], by simp, by simp⟩⟩
theorem append_lit {P : Program} {α : Type} {sz : Nat} {enc : α → List Value} (he : ∀ x, (enc x).length = sz) (t ty e : TypeId) (z : Value) (bytes : Nat) (ht : P.underlying t = some (.slice e))
    (hinfo : (P.info? e).map (fun i => (i.zero, i.size, i.bytes)) = some (some z, sz, bytes)) (hz : z.cells.size = sz) (hs0 : 0 < sz) (hb0 : 0 < bytes) {w : World} {g : Nat} (hg : w.heap[g]? = some (.cells #[] e (0, 0))) {y : Value} {l : List α}
    (hy : SrcAt w y l.length sz (l.flatMap enc)) (hl : l.length * bytes ≤ 140737488355328) :
    ∃ v1 w1, (Builtin.append_ #[t, t] ty #[.slice (some ⟨g, 0, none⟩) 0 0, y]).run P w = .ok v1 w1 ∧ Slc sz enc w1 (fun k => k = g ∨ w.heap.size ≤ k) v1 l ∧ Below w.heap.size w w1 := by
  obtain ⟨i0, hi, hzz⟩ := Option.map_eq_some_iff.1 hinfo
  simp only [Prod.mk.injEq] at hzz
  obtain ⟨hz0, hz1, hz2⟩ := hzz
  have hlen : l.length ≤ 140737488355328 := Nat.le_trans (Nat.le_mul_of_pos_right _ hb0) hl
  have hgl : g < w.heap.size := (Array.getElem?_eq_some_iff.1 hg).1
  obtain ⟨hnl, hone, hx⟩ := hy
  by_cases hm : l.length = 0
  · have hl0 : l = [] := List.eq_nil_of_length_eq_zero hm
    subst hl0
    have hsrc : Src P i0.size t y 0 [] w := by
      rcases hx with ⟨rfl, -⟩ | ⟨ad, c, rfl, hc⟩
      · exact Src.ofNil w ht 0
      · exact Src.ofSlice w ht ad 0 c [] (by simp) (fun j u h => by simp at h) (fun u h => by simp at h)
    refine ⟨_, w, run_append_nothing w t t ty e i0 ht hi (some ⟨g, 0, none⟩) 0 0 (Nat.le_refl _) y hsrc, ⟨some ⟨g, 0, none⟩, 0, rfl, Nat.le_refl _, by simp [maxLen], (fun e => by cases e), (fun ad e2 hn => (hn rfl).elim), fun i x hx => by simp at hx⟩, Below.refl _ _⟩
  · rcases hx with ⟨-, h0⟩ | ⟨ad, c, rfl, hc⟩
    · exact (hm h0).elim
    · obtain ⟨v', w', hr, h2, h3, -, h5⟩ := run_append_own_at (P := P) w g t ty e i0 z sz bytes ht hi hz0 hz1 hz2 hz hs0 _ 0 [] (own_lit (sz := sz) hg) ad l.length c (l.flatMap enc) hnl hc hone (by simp only [maxLen]; omega) (by simpa using hl) (Nat.le_of_lt hgl)
      have hr2 := run_append_grow (P := P) w t ty e i0 z ht hi hz0 ⟨g, 0, none⟩ 0 0 [] (by simp) (by simp) ad l.length c (l.flatMap enc) (by rw [hz1]; exact hnl) hc (by omega) (by omega) (growslice_fits (by omega) (by rw [hz2]; simpa using hl))
      rw [hr2] at hr
      simp only [Result.ok.injEq] at hr
      obtain ⟨e1, e2⟩ := hr
      have hB : Below w.heap.size w w' := by rw [← e2]; exact balloc (bdrew (Below.refl _ _)) _
      simp only [Nat.zero_add, List.nil_append] at h2
      refine ⟨v', w', by rw [hr2, e1, e2], ?_, hB⟩
      obtain ⟨A, c', h6, h7, h8, h9, h10, h11⟩ := own_slc (n := l.length) (l := l) he rfl h2
      refine ⟨A, c', h6, h7, h8, h9, fun ad2 ha hn => ⟨(h10 ad2 ha hn).1, ?_, (h10 ad2 ha hn).2.2⟩, h11⟩
      right
      rw [← e1] at h6
      injection h6 with h6a h6b h6c
      exact Nat.le_of_eq (congrArg Addr.block (Option.some.inj (h6a.trans ha)))
theorem step_lit {P : Program} {w : World} {ops : Array Oper} {o : Oper} {a : Act} {K : Act → World → Prop} {Q : Exit → Act → World → Prop} {E : Prop} {α : Type} {sz : Nat} {enc : α → List Value} (he : ∀ x, (enc x).length = sz) (hgd : o.guard = none) (s x : Operand) (t e : TypeId) (z : Value) (bytes : Nat)
    (ho : o.op = .call { callee := .builtin .append, args := #[s, x], argTypes := #[t, t] }) (ht : P.underlying t = some (.slice e)) (hinfo : (P.info? e).map (fun i => (i.zero, i.size, i.bytes)) = some (some z, sz, bytes)) (hz : z.cells.size = sz) (hs0 : 0 < sz) (hb0 : 0 < bytes)
    (g : Nat) (hs : a.eval s = .slice (some ⟨g, 0, none⟩) 0 0) (y : Value) (hxe : a.eval x = y) (l : List α) (hg : w.heap[g]? = some (.cells #[] e (0, 0))) (hy : SrcAt w y l.length sz (l.flatMap enc)) (hl : l.length * bytes ≤ 140737488355328) {B0 : Nat} (hbg : B0 ≤ g) (hbw : B0 ≤ w.heap.size)
    (h : ∀ v1 w1, Slc sz enc w1 (fun k => B0 ≤ k) v1 l → Below w.heap.size w w1 → K (a.put o.dst v1) w1) :
    if Region.wanted o (yielded ops a.tmps) = true then Oper.wp P o a w K Q else E := by
  have hw : Oper.wp P o a w K Q := by
    obtain ⟨v1, w1, hr, h2, h3⟩ := append_lit (P := P) he t o.type e z bytes ht hinfo hz hs0 hb0 hg hy hl
    unfold Oper.wp execOp
    simp only [ho, resolve, invoke, builtin, Sem.run_bind, Sem.run_pure, Result.andThen_ok, List.map_toArray, List.map_cons, List.map_nil, hs, hxe, hr]
    exact h v1 w1 (h2.mono (fun k _ hk => by rcases hk with hk | hk <;> omega)) h3
  have hwant : Region.wanted o (yielded ops a.tmps) = true := by simp [Region.wanted, hgd]
  rw [if_pos hwant]
  exact hw
end Go.Proofs.YtbjglcdoekbloaaGreatDoor

/- the document's Copied. -/
namespace Go.Proofs.YtbjglcdoekbloaaGreatDoor
open Go.RowKit Go.Proofs.YtbjglcdoekbloaaGreatDoor.MapRaw Go.ChangeMaps

/-- copied series -/
def CopyPost (w : World) (K : List Ky) (e : Ending) (w' : World) : Prop := ∃ v l', e = .returned v ∧ SrTo w w.heap.size v l' w' ∧ l'.map Sr.key = K
theorem SrTo.start (w : World) : SrTo w w.heap.size (.slice (some ⟨w.heap.size, 0, none⟩) 0 0) [] (w.alloc (.cells #[] 66)) :=
  ⟨by simpa using World.ownsRow_lit w (e := 66) (size := 3) #[] 0 (Nat.le_refl _) (by decide) rfl, fun x hx => by simp at hx, balloc (Below.refl _ _) _, ⟨Nat.le_refl _, by simp⟩⟩
theorem SrTo.add2 {w W U w5 : World} {B : Nat} {v v5 : Value} {l : List Sr} {x : Sr} (h : SrTo w B v l W) (hU : Below W.heap.size W U) (hx : SlL U (fun k => W.heap.size ≤ k) x.lv x.lab ∧ SlP U (fun k => W.heap.size ≤ k) x.pv x.pts)
    (ho : w5.ownsRow B 66 3 v5 (l.length + 1) (l.flatMap Sr.enc ++ x.enc)) (hB : Below B W w5) (hg : U.grownBy w5 v.ownBlock) (hv : v5.ownBlock = v.ownBlock ∨ v5.ownBlock = some U.heap.size) : SrTo w B v5 (l ++ [x]) w5 := by
  have hA := h.then hU
  have hle := h.le
  have hown : ∀ k, v.ownBlock = some k → B ≤ k ∧ k < W.heap.size := fun k hk => ownsRow_blk h.own k hk
  have hall : SrOk U (fun k => B ≤ k ∧ some k ≠ v.ownBlock) (l ++ [x]) := fun y hy => by
    rcases List.mem_append.1 hy with hy | hy
    · exact hA.ok y hy
    · simp at hy; subst hy
      have key : ∀ k, W.heap.size ≤ k → B ≤ k ∧ some k ≠ v.ownBlock := fun k hk => ⟨by omega, fun e => by have := hown k e.symm; omega⟩
      exact ⟨Slc.mono hx.1 (fun k _ hk => key k hk), Slc.mono hx.2 (fun k _ hk => key k hk)⟩
  refine ⟨by simpa using ho, ?_, h.below.trans (hB.mono hle.1), ⟨hle.1, Nat.le_trans hA.le.2 hg.size⟩⟩
  refine ((hall.mono (D' := fun k => (B ≤ k ∧ some k ≠ v5.ownBlock) ∧ some k ≠ v.ownBlock) (fun k hk hD => ⟨⟨hD.1, ?_⟩, hD.2⟩)).move hg.size (fun k hk hD => hg.block k hk hD.2)).mono (fun k _ hD => hD.1)
  rcases hv with hv | hv
  · rw [hv]; exact hD.2
  · rw [hv]; intro e; cases e; omega
set_option maxRecDepth 100000 in
set_option maxHeartbeats 2000000 in
theorem ref14_copied {D D' : Nat → Prop} (v : Value) (l : List Sr) (w : World) (hv : Slc 3 Sr.enc w D v l) (hl : SrOk w D' l) (hn9 : l.length ≤ 1000000) (h6 : ∀ x ∈ l, x.lab.length ≤ 1000000 ∧ x.pts.length ≤ 1000000) :
    Calls Tryz.prog 32 #[v] w (CopyPost w (l.map Sr.key)) := by
  obtain ⟨A, c, rfl, p1, p2, p3, p4, p5⟩ := hv
  have HR := Lib.hid p5
  have HL := Lib.hid hl
  have H6 := Lib.hid h6
  obtain ⟨n, hn⟩ : ∃ n, n = l.length := ⟨_, rfl⟩
  have Hn := Lib.hid hn
  rw [← hn] at hn9 ⊢
  clear p1 p2 p3 p4 p5 hn hl h6
  have HSt := Lib.hid (SrTo.start w)
  go_enter Tryz.func32, Tryz.ntmps32
  go_wp2
  go_loopw [3, 9] (fun ov i wr => ∃ (k : Nat) (l1 : List Sr), k ≤ n ∧ i = .int .i64 k ∧ SrTo w w.heap.size ov l1 wr ∧ l1.map Sr.key = (l.take k).map Sr.key) (fun _ i _ => n - (intOf i).toNat)
  case atStart => exact ⟨0, [], Nat.zero_le _, rfl, HSt.out, rfl⟩
  case round =>
    obtain ⟨k, l1, hk, rfl, hE, hK⟩ := hrel
    have HE := Lib.hid hE
    have HK := Lib.hid hK
    obtain ⟨Ao, co, rfl⟩ := own_slice hE.own
    by_cases hlt : k < n
    · have hkl : k < l.length := by rw [← Hn.out]; exact hlt
      have hl1 : l1.length = k := by have := congrArg List.length hK; simp at this; omega
      have hl1b : l1.length ≤ 1000000 := by omega
      clear hl1
      obtain ⟨b, off, rfl, z0, z1, z2⟩ := rdSr_at (Rd.below HR.out hE.below) hkl
      have hx := HL.out _ (List.getElem_mem hkl)
      have hx6 := H6.out _ (List.getElem_mem hkl)
      have hkey : (l.take (k + 1)).map Sr.key = (l.take k).map Sr.key ++ [l[k].key] := by rw [List.take_succ_eq_append_getElem hkl, List.map_append]; rfl
      have HKey := Lib.hid hkey
      generalize l[k] = z at *
      obtain ⟨zr, zlv, zlab, zpv, zpts⟩ := z
      simp only [Sr.key] at z0 z1 z2 hx hx6 HKey
      have HX := Lib.hid (show SlL wr D' zlv zlab ∧ SlP wr D' zpv zpts from ⟨hx.1.below hE.below, hx.2.below hE.below⟩)
      obtain ⟨⟨A4, c4, rfl, -⟩, ⟨A5, c5, rfl, -⟩⟩ := hx
      have HBw : Hid (Below wr.heap.size wr (wr.alloc (.cells #[.int .u32 zr, .slice A4 zlab.length c4, .slice A5 zpts.length c5] 66))) := Lib.hid (balloc (Below.refl _ _) _)
      have v0 : (wr.alloc (.cells #[.int .u32 zr, .slice A4 zlab.length c4, .slice A5 zpts.length c5] 66)).drew.cell? ⟨wr.heap.size, 0, none⟩ = some (.int .u32 zr) := show (wr.alloc _).cell? _ = _ by simp
      have v1 : (wr.alloc (.cells #[.int .u32 zr, .slice A4 zlab.length c4, .slice A5 zpts.length c5] 66)).drew.cell? ⟨wr.heap.size, 1, none⟩ = some (.slice A4 zlab.length c4) := show (wr.alloc _).cell? _ = _ by simp
      have v2 : (wr.alloc (.cells #[.int .u32 zr, .slice A4 zlab.length c4, .slice A5 zpts.length c5] 66)).drew.cell? ⟨wr.heap.size, 2, none⟩ = some (.slice A5 zpts.length c5) := show (wr.alloc _).cell? _ = _ by simp
      have hsz : wr.heap.size < (wr.alloc (.cells #[.int .u32 zr, .slice A4 zlab.length c4, .slice A5 zpts.length c5] 66)).heap.size := by simp
      have HEw := Lib.hid (HE.out.then HBw.out)
      have hXw : SlL (wr.alloc (.cells #[.int .u32 zr, .slice A4 zlab.length c4, .slice A5 zpts.length c5] 66)) D' (.slice A4 zlab.length c4) zlab ∧ SlP (wr.alloc (.cells #[.int .u32 zr, .slice A4 zlab.length c4, .slice A5 zpts.length c5] 66)) D' (.slice A5 zpts.length c5) zpts := ⟨HX.out.1.below HBw.out, HX.out.2.below HBw.out⟩
      have HsrcL := Lib.hid (hXw.1.src lb_len lb_one (by decide))
      have HsrcP := Lib.hid (hXw.2.src pt_len pt_one (by decide))
      have hla := hx6.1
      have hpa := hx6.2
      clear hE hK hkey hx6 hXw HX
      have V0 : Hid ((wr.alloc (.cells #[.int .u32 zr, .slice A4 zlab.length c4, .slice A5 zpts.length c5] 66)).cell? ⟨wr.heap.size, 0, none⟩ = some (.int .u32 zr)) := Lib.hid v0
      have V1 : Hid ((wr.alloc (.cells #[.int .u32 zr, .slice A4 zlab.length c4, .slice A5 zpts.length c5] 66)).cell? ⟨wr.heap.size, 1, none⟩ = some (.slice A4 zlab.length c4)) := Lib.hid v1
      have V2 : Hid ((wr.alloc (.cells #[.int .u32 zr, .slice A4 zlab.length c4, .slice A5 zpts.length c5] 66)).cell? ⟨wr.heap.size, 2, none⟩ = some (.slice A5 zpts.length c5)) := Lib.hid v2
      have Nv : Hid (some wr.heap.size ≠ (Value.slice Ao l1.length co).ownBlock) := Lib.hid (fun e => by have := ownsRow_blk HE.out.own _ e.symm; omega)
      go_upto_region 5 with fail
      generalize wr.alloc (.cells #[.int .u32 zr, .slice A4 zlab.length c4, .slice A5 zpts.length c5] 66) = W at *
      go_region_held3 (fun w' => w'.cell? ⟨wr.heap.size, 0, none⟩ = some (.int .u32 zr) ∧ w'.cell? ⟨wr.heap.size, 1, none⟩ = some (.slice A4 zlab.length c4) ∧ w'.cell? ⟨wr.heap.size, 2, none⟩ = some (.slice A5 zpts.length c5)) (first | exact ⟨v0, v1, v2⟩ | exact ⟨t0, t1, t2⟩ | exact ⟨later (by (repeat (first | exact Below.refl _ _ | assumption | refine bthen ?_ hBL | refine bthen ?_ hBP | refine bdrew ?_ | refine balloc ?_ _))) V0.out, later (by (repeat (first | exact Below.refl _ _ | assumption | refine bthen ?_ hBL | refine bthen ?_ hBP | refine bdrew ?_ | refine balloc ?_ _))) V1.out, later (by (repeat (first | exact Below.refl _ _ | assumption | refine bthen ?_ hBL | refine bthen ?_ hBP | refine bdrew ?_ | refine balloc ?_ _))) V2.out⟩)
          (first | (refine step_lit lb_len (o := ⟨some 19, _, _, _, _, _⟩) (B0 := W.heap.size) rfl _ _ 42 124 _ 32 rfl Tryz.underlying42 info_lb rfl (by decide) (by decide) _ rfl _ rfl zlab ?_ ?_ ?_ ?_ ?_ ?_; (first | exact blk_new _ _ | exact heap_alloc2_new _ _ _ | exact blk_below (blk_new _ _) (by (repeat (first | exact Below.refl _ _ | assumption | refine bthen ?_ hBL | refine bthen ?_ hBP | refine bdrew ?_ | refine balloc ?_ _))) | exact blk_below (heap_alloc2_new _ _ _) (by (repeat (first | exact Below.refl _ _ | assumption | refine bthen ?_ hBL | refine bthen ?_ hBP | refine bdrew ?_ | refine balloc ?_ _)))); (exact HsrcL.out.below (by (repeat (first | exact Below.refl _ _ | assumption | refine bthen ?_ hBL | refine bthen ?_ hBP | refine bdrew ?_ | refine balloc ?_ _)))); omega; (first | exact Nat.le_refl _ | omega | (have := hWL.size; omega) | (have := hWP.size; omega)); (exact Below.size (show Below W.heap.size W _ by (repeat (first | exact Below.refl _ _ | assumption | refine bthen ?_ hBL | refine bthen ?_ hBP | refine bdrew ?_ | refine balloc ?_ _)))); intro vL wL hSL hBL; have hWL : Below W.heap.size W wL := bthen (by (repeat (first | exact Below.refl _ _ | assumption | refine bthen ?_ hBL | refine bthen ?_ hBP | refine bdrew ?_ | refine balloc ?_ _))) hBL; obtain ⟨AL, cL, rfl, -⟩ := id hSL; have HSL := Lib.hid hSL; clear hSL) | (refine step_lit pt_len (o := ⟨some 23, _, _, _, _, _⟩) (B0 := W.heap.size) rfl _ _ 54 68 _ 24 rfl Tryz.underlying54 info_pt rfl (by decide) (by decide) _ rfl _ rfl zpts ?_ ?_ ?_ ?_ ?_ ?_; (first | exact blk_new _ _ | exact heap_alloc2_new _ _ _ | exact blk_below (blk_new _ _) (by (repeat (first | exact Below.refl _ _ | assumption | refine bthen ?_ hBL | refine bthen ?_ hBP | refine bdrew ?_ | refine balloc ?_ _))) | exact blk_below (heap_alloc2_new _ _ _) (by (repeat (first | exact Below.refl _ _ | assumption | refine bthen ?_ hBL | refine bthen ?_ hBP | refine bdrew ?_ | refine balloc ?_ _)))); (exact HsrcP.out.below (by (repeat (first | exact Below.refl _ _ | assumption | refine bthen ?_ hBL | refine bthen ?_ hBP | refine bdrew ?_ | refine balloc ?_ _)))); omega; (first | exact Nat.le_refl _ | omega | (have := hWL.size; omega) | (have := hWP.size; omega)); (exact Below.size (show Below W.heap.size W _ by (repeat (first | exact Below.refl _ _ | assumption | refine bthen ?_ hBL | refine bthen ?_ hBP | refine bdrew ?_ | refine balloc ?_ _)))); intro vP wP hSP hBP; have hWP : Below W.heap.size W wP := bthen (by (repeat (first | exact Below.refl _ _ | assumption | refine bthen ?_ hBL | refine bthen ?_ hBP | refine bdrew ?_ | refine balloc ?_ _))) hBP; obtain ⟨AP, cP, rfl, -⟩ := id hSP; have HSP := Lib.hid hSP; clear hSP) | (refine step_app2 (o := ⟨some 26, _, _, _, _, _⟩) (w0 := W) (W0 := W) w.heap.size rfl _ _ 22 66 _ 3 56 1 [.int .u32 zr, .slice AL zlab.length cL, .slice AP zpts.length cP] rfl Tryz.underlying22 info_ser rfl (by decide) (by decide) (.slice Ao l1.length co) l1.length (l1.flatMap Sr.enc) rfl _ rfl ?_ HEw.out.own (Below.refl _ _) HEw.out.le.2 ?_ ?_ ?_; (exact src_block (m := 1) (size := 3) (cs := #[.int .u32 zr, .slice AL zlab.length cL, .slice AP zpts.length cP]) (blk_new _ _) rfl (fun u hu => by simp at hu; rcases hu with rfl | rfl | rfl <;> rfl) 1); (repeat (first | exact Below.refl _ _ | assumption | refine bthen ?_ hBL | refine bthen ?_ hBP | refine bdrew ?_ | refine balloc ?_ _)); (omega); intro v5 w5 hO5 hB5 hg5 hat5; have t0 := hg5.cell (later (by (repeat (first | exact Below.refl _ _ | assumption | refine bthen ?_ hBL | refine bthen ?_ hBP | refine bdrew ?_ | refine balloc ?_ _))) V0.out) Nv.out; have t1 := hg5.cell (later (by (repeat (first | exact Below.refl _ _ | assumption | refine bthen ?_ hBL | refine bthen ?_ hBP | refine bdrew ?_ | refine balloc ?_ _))) V1.out) Nv.out; have t2 := hg5.cell (later (by (repeat (first | exact Below.refl _ _ | assumption | refine bthen ?_ hBL | refine bthen ?_ hBP | refine bdrew ?_ | refine balloc ?_ _))) V2.out) Nv.out))
      all_goals
        have hT : SrTo w w.heap.size v5 (l1 ++ [⟨zr, .slice AL zlab.length cL, zlab, .slice AP zpts.length cP, zpts⟩]) w5 := by
          refine HEw.out.add2 ?_ ?_ hO5 hB5 hg5 hat5
          · (repeat (first | exact Below.refl _ _ | assumption | refine bthen ?_ hBL | refine bthen ?_ hBP | refine bdrew ?_ | refine balloc ?_ _))
          · exact ⟨HSL.out.below (by (repeat (first | exact Below.refl _ _ | assumption | refine bthen ?_ hBL | refine bthen ?_ hBP | refine bdrew ?_ | refine balloc ?_ _))), HSP.out.below (by (repeat (first | exact Below.refl _ _ | assumption | refine bthen ?_ hBL | refine bthen ?_ hBP | refine bdrew ?_ | refine balloc ?_ _)))⟩
        have HT := Lib.hid hT
        obtain ⟨A7, c7, rfl⟩ := own_slice hO5
        clear hO5 hB5 hg5 hat5 hT t0 t1 t2
        go_wp2_with fail
        go_roundw
        case rel => exact ⟨k + 1, _, by omega, by go_num, HT.out, by rw [List.map_append, HK.out, HKey.out]; rfl⟩
        case measure => simp [intOf] <;> omega
    · have hkk : l.take k = l := List.take_of_length_le (by rw [← Hn.out]; omega)
      rw [hkk] at HK
      have hfin : CopyPost w (l.map Sr.key) (.returned (.slice Ao l1.length co)) wr := ⟨_, l1, rfl, HE.out, HK.out⟩
      have HF := Lib.hid hfin
      clear hkk hfin hE hK
      go_wp2
      go_ret
      exact HF.out
end Go.Proofs.YtbjglcdoekbloaaGreatDoor

/- the document's head: Of. -/
namespace Go.Proofs.YtbjglcdoekbloaaGreatDoor
open Go.RowKit Go.Proofs.YtbjglcdoekbloaaGreatDoor.MapRaw Go.ChangeMaps

/-- a new one of the document's heads -/
structure RNew (w : World) (xp : Nat) (v : Value) (l : List Sr) (w' : World) : Prop where
  hc : w'.heap[xp]? = some (.cells #[v] 107 (0, 0))
  own : w'.ownsRow w.heap.size 66 3 v l.length (l.flatMap Sr.enc)
  ok : SrOk w' (fun k => (w.heap.size ≤ k ∧ some k ≠ v.ownBlock) ∧ k ≠ xp) l
  ne : v.ownBlock ≠ some xp
  below : Below w.heap.size w w'
  xp : w.heap.size ≤ xp
def ROfPost (w : World) (K : List Ky) (e : Ending) (w' : World) : Prop :=
  (rightS K ≠ 0 ∧ e = .returned (.tuple #[.pointer none, .int .i64 (rightS K)]) ∧ Below w.heap.size w w') ∨ (rightS K = 0 ∧ ∃ xp v l, e = .returned (.tuple #[.pointer (some ⟨xp, 0, none⟩), .int .i64 0]) ∧ RNew w xp v l w' ∧ l.map Sr.key = K)
theorem rnew_of {w w0 w1 : World} {v : Value} {l : List Sr} (h0 : Below w.heap.size w w0) (h : SrTo w0 w0.heap.size v l w1) : RNew w w1.heap.size v l (w1.alloc (.cells #[v] 107)) := by
  have hb : Below w1.heap.size w1 (w1.alloc (.cells #[v] 107)) := balloc (Below.refl _ _) _
  have h2 := h.then hb
  have hs := h.below.size
  have hw := h0.size
  refine ⟨blk_new _ _, own_base h2.own hw, ?_, fun e => ?_, bthen (bthen h0 h.below) hb, by omega⟩
  · exact (SrOk.below (SrOk.mono (D' := fun k => (w.heap.size ≤ k ∧ some k ≠ v.ownBlock) ∧ k ≠ w1.heap.size) h.ok (fun k hk hD => ⟨⟨by omega, hD.2⟩, by omega⟩)) hb)
  · have := (ownsRow_blk h.own _ e).2; omega
set_option maxRecDepth 100000 in
set_option maxHeartbeats 1000000 in
theorem ref14_of {D D' : Nat → Prop} (v : Value) (l : List Sr) (w : World) (hv : Slc 3 Sr.enc w D v l) (hl : SrOk w D' l) (hz : ∀ x ∈ l, SzL x.lab) (hn9 : l.length ≤ 1000000) (h6 : ∀ x ∈ l, x.lab.length ≤ 1000000 ∧ x.pts.length ≤ 1000000) :
    Calls Tryz.prog 33 #[v] w (ROfPost w (l.map Sr.key)) := by
  have hr := ref14_right v l w hv hl hz
  have hc := fun (W : World) (hW : Below w.heap.size w W) => ref14_copied v l W (hv.below hW) (hl.below hW) hn9 h6
  have HR := Lib.hid hr
  have HC := Lib.hid hc
  obtain ⟨A, c, rfl, -⟩ := hv
  generalize l.length = n at *
  generalize l.map Sr.key = K at *
  clear hr hc hl hz h6
  by_cases h0 : rightS K = 0
  · rw [h0] at HR
    have H0 := Lib.hid h0
    clear h0
    go_enter Tryz.func33, Tryz.ntmps33
    go_wp2_with fail
    refine HR.out.mono ?_
    rintro e w1 ⟨rfl, hb⟩
    have HB := Lib.hid hb
    clear hb
    go_wp2_with fail
    refine (HC.out _ HB.out).mono ?_
    rintro e w2 ⟨v2, l2, rfl, hS, hK⟩
    have HN := Lib.hid (rnew_of HB.out hS)
    have HK := Lib.hid hK
    obtain ⟨A2, c2, rfl⟩ := own_slice hS.own
    clear hS hK
    go_wp2_with fail
    go_ret2
    exact .inr ⟨H0.out, _, _, _, rfl, HN.out, HK.out⟩
  · have hq : (rightS K != 0) = true := by simpa using h0
    have H0 := Lib.hid h0
    clear h0
    generalize hqq : rightS K = q at *
    have HQ := Lib.hid hqq
    clear hqq
    go_enter Tryz.func33, Tryz.ntmps33
    go_wp2_with fail
    refine HR.out.mono ?_
    rintro e w1 ⟨rfl, hb⟩
    have HB := Lib.hid hb
    clear hb
    go_wp2_with fail
    go_ret2
    refine .inl ⟨by rw [HQ.out]; exact H0.out, ?_, HB.out⟩
    rw [HQ.out]
    rfl
end Go.Proofs.YtbjglcdoekbloaaGreatDoor
