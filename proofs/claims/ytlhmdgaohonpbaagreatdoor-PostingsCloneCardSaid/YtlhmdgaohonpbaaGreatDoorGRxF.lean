import Derived.Test.YtlhmdgaohonpbaaGreatDoorGRxE
import Derived.Deep.RegionLaw
import Derived.Recover
import Derived.Laws.Pointers
set_option linter.unusedSimpArgs false
set_option linter.unusedVariables false
set_option linter.unusedSectionVars false
namespace Go.Proofs.YtlhmdgaohonpbaaGreatDoor
open Go.RowKit Go.Proofs.YtlhmdgaohonpbaaGreatDoor.MapRaw Go.ChangeMaps
theorem br_lit {w W : World} {rb g ka : Nat} {s : ByteArray} {kind : Int} {r : Rs} {a : Part} (hx : RxW w rb s r W) (hlt : rb < w.heap.size) (ha : PartAt W (fun k => w.heap.size ≤ k) g ka a) :
  BrAt w rb s (W.heap.size + 1) kind g (.slice (some ⟨W.heap.size, 0, none⟩) 1 1) [ka] [a] r ((W.alloc (.cells #[.pointer (some ⟨ka, 0, none⟩)] 195)).alloc (.cells #[.int .i64 kind, .slice none 0 0, .bool false, .bool false, .slice (some ⟨W.heap.size, 0, none⟩) 1 1, .int .i32 0] 210)) := by
 have hsz := hx.apart.size
 have hb : Below W.heap.size W ((W.alloc (.cells #[.pointer (some ⟨ka, 0, none⟩)] 195)).alloc (.cells #[.int .i64 kind, .slice none 0 0, .bool false, .bool false, .slice (some ⟨W.heap.size, 0, none⟩) 1 1, .int .i32 0] 210)) := balloc (balloc (Below.refl _ _) _) _
 have hs : (W.alloc (.cells #[.pointer (some ⟨ka, 0, none⟩)] 195)).heap.size = W.heap.size + 1 := by simp
 refine ⟨hx.below hb, hlt, by omega, by rw [← hs]; exact blk_new _ _, ?_, (fun e => by injection e with e; simp at e), rfl, fun i k hi p hp => ?_⟩
 ·exact own_below (own_shift (own_new (n := 1) (sz := 1) (cs := #[.pointer (some ⟨ka, 0, none⟩)]) rfl (by decide)) hsz) (balloc (Below.refl _ _) _)
 ·have e : i = 0 := by cases i with | zero => rfl | succ i => simp at hi
  subst e
  simp at hi hp
  subst hi; subst hp
  exact PartAt.move hb.size (fun j hj _ => hb.block j hj) (fun j hj hd => ⟨hd, by omega, fun e => by injection e with e; simp at e; omega⟩) _ _ _ ha
set_option maxRecDepth 100000 in
set_option maxHeartbeats 4000000 in
theorem rex_pattern {w : World} {rb : Nat} {s : ByteArray} {r : Rs} {pat : Rs → Out Part} {hh : Nat} {dl : Int} (hP : PatC s pat hh dl) (hF : PatFwd s pat) (h1h : 1 ≤ hh) (h : RxW w rb s r w) (hd : dl ≤ r.depth + 1) :
  Calls Tryz.prog 136 #[.pointer (some ⟨rb, 0, none⟩)] w (RxPost w rb s (PartV w (hh + 3)) (patS pat s r)) := by
 have hbr := rex_branch hP hF h1h h hd
 have hBr := fun (W : World) (r' : Rs) (hW : RxW W rb s r' W) (hd' : r'.depth = r.depth) => rex_branch hP hF h1h hW (by rw [hd']; exact hd)
 have HBr := Lib.hid hBr
 have hef : patS pat s r = (branchF pat s r).on fun b r => (patLoop pat s (s.size + 1) [b] r).on fun l r => .ok (.mk 2 [] false false l 0) r := rfl
 have hlo := h.ok.lo
 have HLt := Lib.hid h.rd.lt
 have HOk := Lib.hid h.ok
 have HBr0 := Lib.hid hbr
 generalize patS pat s r = res at *
 have HEf := Lib.hid hef
 clear hBr hbr h hef
 go_enter Tryz.func136, Tryz.ntmps136
 go_wp2_with fail
 refine HBr0.out.mono ?_
 rintro e w1 hpost
 cases hb : branchF pat s r with
 | bad a n =>
  rw [hb] at hpost
  obtain ⟨rfl, hA⟩ := hpost
  have HFin : Hid (RxPost w rb s (PartV w (hh + 3)) res (BadE a n) w1) := Lib.hid (by rw [HEf.out, hb]; exact ⟨rfl, hA⟩)
  clear hb hA
  exact ⟨rfl, HFin.out⟩
 | ok b r1 =>
  obtain ⟨tot, htt⟩ : ∃ tot, patLoop pat s (s.size + 1) [b] r1 = tot := ⟨_, rfl⟩
  have hres : res = tot.on fun l r => .ok (.mk 2 [] false false l 0) r := by rw [HEf.out, hb, ← htt]; rfl
  have HRes := Lib.hid hres
  have HTt := Lib.hid htt
  have hfw := branch_fwd hF _ _ _ HOk.out hb
  rw [hb] at hpost
  obtain ⟨v, rfl, ⟨ka, rfl, hPa⟩, hW1⟩ := hpost
  have HD1 := Lib.hid hfw.depth
  have HLo : Hid (0 ≤ r1.at_) := Lib.hid hfw.ok.lo
  have hB1 := br_lit (kind := 2) hW1 HLt.out hPa
  have HB1 := Lib.hid hB1
  clear hb hPa hW1 hfw hB1 hres htt
  go_wp2_with fail
  generalize (w1.alloc (.cells #[.pointer (some ⟨ka, 0, none⟩)] 195)).alloc (.cells #[.int .i64 2, .slice none 0 0, .bool false, .bool false, .slice (some ⟨w1.heap.size, 0, none⟩) 1 1, .int .i32 0] 210) = w2 at *
  generalize w1.heap.size + 1 = pb at *
  go_loopw [] (fun wr => ∃ (n : Nat) (kv : Value) (ks : List Nat) (acc : List Part) (r' : Rs), 1 ≤ n ∧ (s.size : Int) + 1 ≤ r'.at_ + n ∧ patLoop pat s n acc r' = tot ∧ (acc.length : Int) ≤ r'.at_ + 1 ∧ r'.depth = r.depth ∧ BrAt w rb s pb 2 (hh + 2) kv ks acc r' wr) (fun wr => RxM rb wr)
  case atStart => exact ⟨s.size + 1, _, _, [b], r1, by omega, by have := HLo.out; omega, HTt.out, by have := HLo.out; simp; omega, HD1.out, HB1.out⟩
  case round =>
   obtain ⟨n, kv, ks, acc, r', hn, hsz, htot, hacc, hdp, hB⟩ := hrel
   have HBq := Lib.hid hB
   have hpk := hB.rx.peek
   cases n with
   | zero => omega
   | succ n =>
    have htot2 : ((peekF s r').on fun c r => if c = 124 then (branchF pat s (skipF 124 r)).on fun b r => patLoop pat s n (acc ++ [b]) r else .ok acc r) = tot := by rw [← htot]; rfl
    have HN : Hid ((s.size : Int) + 1 ≤ r'.at_ + (n + 1)) := Lib.hid (by omega)
    have HAcc := Lib.hid hacc
    have HDp := Lib.hid hdp
    cases hpe : peekF s r' with
    | bad a9 e9 =>
     rw [hpe] at hpk htot2
     have HPk := Lib.hid hpk
     have HFin : Hid (∀ W, Apart (fun k => k = rb) w W → RxPost w rb s (PartV w (hh + 3)) res (BadE a9 e9) W) := Lib.hid (fun W hA => by rw [HRes.out, ← htot2]; exact ⟨rfl, hA⟩)
     clear hpk htot2 hpe htot hacc hB hn hsz hdp
     go_wp2_with fail
     refine HPk.out.mono ?_
     rintro e w3 ⟨rfl, hb3⟩
     exact ⟨rfl, HFin.out _ (HBq.out.rx.apart.then hb3)⟩
    | ok c r9 =>
     obtain ⟨rfl, -⟩ := peek_ok hB.rx.ok.lo hpe
     rw [hpe] at hpk htot2
     have htot3 : (if c = 124 then (branchF pat s (skipF 124 r9)).on fun b r => patLoop pat s n (acc ++ [b]) r else .ok acc r9) = tot := htot2
     clear htot2
     have HPk := Lib.hid hpk
     have HPe := Lib.hid hpe
     by_cases h124 : c = 124
     ·have e1 : (c == 124) = true := by simpa using h124
      rw [if_pos h124] at htot3
      subst h124
      have HT := Lib.hid htot3
      have HLt9 := Lib.hid (peek_lt hB.rx.ok hpe (by decide))
      have HFw9 := Lib.hid (peek_fwd hB.rx.ok hpe (by decide))
      clear hpk htot3 hpe htot hacc hB hn hsz hdp
      go_wp2_with fail
      refine HPk.out.mono ?_
      rintro e w3 ⟨rfl, hb3⟩
      have HB3 := Lib.hid (HBq.out.below hb3)
      clear hb3
      go_wp2_with fail
      refine (HB3.out.rx.skip HPe.out (by decide)).mono ?_
      rintro e w4 ⟨rfl, hW4, hA4⟩
      have HB4 := Lib.hid (HB3.out.turn hW4.rd hA4 hW4.ok)
      have HB4d := Lib.hid (HB4.out.below (bdrew (Below.refl _ _)))
      clear hW4 hA4
      have hcall := HBr.out w4.drew (skipF 124 r9) HB4d.out.rx.re HDp.out
      have y4 := blk_cell HB4d.out.blk 4
      simp at y4
      cases hb : branchF pat s (skipF 124 r9) with
      | bad a9 e9 =>
       rw [hb] at hcall
       have HCall := Lib.hid hcall
       have HFin : Hid (∀ W, Apart (fun k => k = rb) w W → RxPost w rb s (PartV w (hh + 3)) res (BadE a9 e9) W) := Lib.hid (fun W hA => by rw [HRes.out, ← HT.out, hb]; exact ⟨rfl, hA⟩)
       clear hcall hb
       go_wp2_with fail
       refine wp_region_held_drew (S := fun w' => w'.cell? ⟨pb, 4, none⟩ = some kv) (by kernel_rfl) y4 (fun hHeld => ?_)
       refine wpAnyH_take (i := 0) (oi := ⟨some 14, _, _, _, _, _⟩) (v := ?_) rfl (by kernel_rfl) (by kernel_rfl) (by kernel_rfl) (fun _ _ _ h => h) (Or.inl ⟨by rfl, fun w hSw => ?_⟩) (by assumption) ?_
       rotate_left 1
       ·(try dsimp only at hSw); go_simp; try with_reducible rfl
       try simp only [Act.put, List.setIfInBounds_toArray, List.set_cons_zero, List.set_cons_succ]
       refine wpAnyH_take (i := 1) (oi := ⟨some 15, _, _, _, _, _⟩) (v := ?_) rfl (by kernel_rfl) (by kernel_rfl) (by kernel_rfl) (fun _ _ _ h => h) (Or.inl ⟨by rfl, fun w hSw => ?_⟩) (by assumption) ?_
       rotate_left 1
       ·(try dsimp only at hSw); go_simp; try with_reducible rfl
       try simp only [Act.put, List.setIfInBounds_toArray, List.set_cons_zero, List.set_cons_succ]
       refine wpAnyH_take (i := 2) (oi := ⟨some 16, _, _, _, _, _⟩) (v := ?_) rfl (by kernel_rfl) (by kernel_rfl) (by kernel_rfl) (fun _ _ _ h => h) (Or.inl ⟨by rfl, fun w hSw => ?_⟩) (by assumption) ?_
       rotate_left 1
       ·(try dsimp only at hSw); go_simp; try with_reducible rfl
       try simp only [Act.put, List.setIfInBounds_toArray, List.set_cons_zero, List.set_cons_succ]
       refine wpAnyH_take (i := 3) (oi := ⟨some 17, _, _, _, _, _⟩) (v := ?_) rfl (by kernel_rfl) (by kernel_rfl) (by kernel_rfl) (fun _ _ _ h => h) (Or.inl ⟨by rfl, fun w hSw => ?_⟩) (by assumption) ?_
       rotate_left 1
       ·(try dsimp only at hSw); go_simp; try with_reducible rfl
       try simp only [Act.put, List.setIfInBounds_toArray, List.set_cons_zero, List.set_cons_succ]
       refine wpAnyH_take (i := 4) (oi := ⟨some 18, _, _, _, _, _⟩) (v := ?_) rfl (by kernel_rfl) (by kernel_rfl) (by kernel_rfl) (fun _ _ _ h => h) (Or.inl ⟨by rfl, fun w hSw => ?_⟩) (by assumption) ?_
       rotate_left 1
       ·(try dsimp only at hSw); go_simp; try with_reducible rfl
       try simp only [Act.put, List.setIfInBounds_toArray, List.set_cons_zero, List.set_cons_succ]
       refine wpAnyH_take (i := 5) (oi := ⟨some 19, _, _, _, _, _⟩) (v := ?_) rfl (by kernel_rfl) (by kernel_rfl) (by kernel_rfl) (fun _ _ _ h => h) (Or.inl ⟨by rfl, fun w hSw => ?_⟩) (by assumption) ?_
       rotate_left 1
       ·(try dsimp only at hSw); go_simp; try with_reducible rfl
       try simp only [Act.put, List.setIfInBounds_toArray, List.set_cons_zero, List.set_cons_succ]
       refine wpAnyH_ready (rs := [6]) (by kernel_rfl) (by simp) ?_
       refine AllReadyH.cons (o := ⟨some 20, _, _, _, _, _⟩) rfl (fun K hK => ?_) AllReadyH.nil
       go_simp
       go_at_call 147
       refine HCall.out.mono ?_
       rintro e w7 ⟨rfl, hA7⟩
       exact ⟨rfl, HFin.out _ (HB4d.out.rx.apart.trans hA7 (fun _ _ h => h))⟩
      | ok b2 r4 =>
       have hfb := branch_fwd hF _ _ _ HB4d.out.rx.ok hb
       have hT2 : patLoop pat s n (acc ++ [b2]) r4 = tot := by rw [← HT.out, hb]; rfl
       have HT2 := Lib.hid hT2
       rw [hb] at hcall
       have HCall := Lib.hid hcall
       have hnn : 1 ≤ n ∧ (s.size : Int) + 1 ≤ r4.at_ + n ∧ r9.at_ + 1 ≤ r4.at_ := by have := HN.out; have := HLt9.out; have := HFw9.out.fwd; have := hfb.fwd; omega
       have HNn := Lib.hid hnn
       have HD4 : Hid (r4.depth = r.depth) := Lib.hid (hfb.depth.trans HDp.out)
       have hacc2 : (((acc ++ [b2]).length : Nat) : Int) ≤ r4.at_ + 1 := by rw [List.length_append]; have := HAcc.out; simp only [List.length_cons, List.length_nil]; omega
       have HAcc2 := Lib.hid hacc2
       have hlen : (acc.length + 1) * 8 ≤ 140737488355328 := by have := HAcc.out; have := HBq.out.rx.ok.hi; have := HBq.out.rx.sz; omega
       have HLen := Lib.hid hlen
       have Nb : Hid (¬ pb = rb) := Lib.hid (by have := HBq.out.ge; have := HBq.out.lt; omega)
       have HSz := Lib.hid (HB4d.out.rx.apart.size)
       clear hcall hb hfb hT2 hnn hacc2 hlen
       go_wp2_with fail
       have f4 : w4.drew.frozen? ⟨pb, 4, none⟩ = false := free_blk (i := 4) HB4d.out.blk
       go_region_law (first | (go_simp; go_at_call 147; refine HCall.out.mono ?_; rintro e w7 ⟨v7, rfl, ⟨kb, rfl, hPb⟩, hW7⟩; have HPb := Lib.hid hPb; have HB7 := Lib.hid (HB4d.out.turn hW7.rd hW7.apart hW7.ok); have z4 : w7.cell? ⟨pb, 4, none⟩ = some kv := hW7.apart.cell Nb.out y4; have z4' : ∀ o', (w7.alloc o').cell? ⟨pb, 4, none⟩ = some kv := (fun o' => later (balloc (Below.refl _ _) _) z4); clear hPb hW7) | (refine step_app2 (o := ⟨some 22, _, _, _, _, _⟩) (w0 := w7.alloc (.cells #[.pointer (some ⟨kb, 0, none⟩)] 195)) (W0 := w7.alloc (.cells #[.pointer (some ⟨kb, 0, none⟩)] 195)) w.heap.size rfl _ _ 207 195 _ 1 8 1 (encP kb) rfl Tryz.underlying207 info_pp rfl (by decide) (by decide) kv acc.length (ks.flatMap encP) rfl _ rfl ?_ (own_below HB7.out.own (balloc (Below.refl _ _) _)) (Below.refl _ _) (Nat.le_trans HB7.out.rx.apart.size (balloc (Below.refl _ _) _).size) (Below.refl _ _) HLen.out ?_; (exact src_block (m := 1) (size := 1) (cs := #[.pointer (some ⟨kb, 0, none⟩)]) (blk_new _ _) rfl (fun u hu => by simp at hu; subst hu; rfl) 1); intro v8 w8 hO8 hB8 hg8 hat8; have hHB := br_push (HB7.out.below (balloc (Below.refl _ _) _)) hO8 hB8 hg8 hat8 (PartAt.move (balloc (Below.refl _ _) _).size (fun j hj _ => (balloc (Below.refl _ _) _).block j hj) (fun _ _ hd => hd) _ _ _ HPb.out) HSz.out HB4d.out.size HB4d.out.ownlt; have HB8 := Lib.hid hHB; have hb8 := (hg8.block pb (HB7.out.below (balloc (Below.refl _ _) _)).size (fun e => HB7.out.ne e.symm)).trans (HB7.out.below (balloc (Below.refl _ _) _)).blk; have q4 := (blk_cell hb8 4).trans (show _ = some kv from rfl); have f8 : w8.frozen? ⟨pb, 4, none⟩ = false := free_blk (i := 4) hb8; obtain ⟨A8, c8, rfl⟩ := own_slice hO8; clear hO8 hB8 hg8 hat8 hb8 hHB))
       all_goals
        go_wp2_with fail
        go_roundw
        case rel => exact ⟨n, _, _, _, r4, HNn.out.1, HNn.out.2.1, HT2.out, HAcc2.out, HD4.out, HB8.out⟩
        case measure => exact RxM_lt HBq.out.rx.rd HB8.out.rx.rd HBq.out.rx.ok HB8.out.rx.ok HBq.out.rx.sz HNn.out.2.2
     ·have e1 : (c == 124) = false := by simpa using h124
      rw [if_neg h124] at htot3
      have HFin : Hid (∀ W, Below wr.heap.size wr W → RxPost w rb s (PartV w (hh + 3)) res (.returned (.pointer (some ⟨pb, 0, none⟩))) W) := Lib.hid (fun W hW => by rw [HRes.out, ← htot3]; exact ⟨_, rfl, ⟨pb, rfl, br_end (HBq.out.below hW) (.inr rfl)⟩, (HBq.out.below hW).rx⟩)
      clear hpk htot3 hpe htot hacc hB hn hsz hdp h124
      go_wp2_with fail
      refine HPk.out.mono ?_
      rintro e w3 ⟨rfl, hb3⟩
      have HF3 := Lib.hid (HFin.out _ hb3)
      clear hb3
      go_wp2_with fail
      go_ret
      exact HF3.out
end Go.Proofs.YtlhmdgaohonpbaaGreatDoor

namespace Go.Proofs.YtlhmdgaohonpbaaGreatDoor
open Go.RowKit Go.Proofs.YtlhmdgaohonpbaaGreatDoor.MapRaw Go.ChangeMaps
theorem pat_ok (s : ByteArray) : ∀ d : Nat, PatC s (patF s d) (3 * d + 1) (21 - d)
 | 0 => fun w rb r h hd => by have := h.ok.d1; omega
 | d + 1 => fun w rb r h hd => by
  have := rex_pattern (pat_ok s d) (patF_fwd s d) (by omega) h (by omega)
  rw [show 3 * (d + 1) + 1 = 3 * d + 1 + 3 by omega]
  exact this
theorem rex_top {w : World} {rb : Nat} {s : ByteArray} {r : Rs} (h : RxW w rb s r w) (hd : r.depth = 0) :
  Calls Tryz.prog 136 #[.pointer (some ⟨rb, 0, none⟩)] w (RxPost w rb s (PartV w 64) (patF s 21 r)) := pat_ok s 21 w rb r h (by omega)
def ParsePost (w : World) (s : ByteArray) (o : Out Part) (e : Ending) (w' : World) : Prop :=
 match o with
 | .ok p r => ∃ b tb, e = .returned (.tuple #[.pointer (some ⟨b, 0, none⟩), .int .i64 0, .int .i64 0]) ∧ w.heap.size ≤ b ∧ w'.heap[b]? = some (.cells #[.string s, .pointer (some ⟨tb, 0, none⟩), .int .i64 r.size] 199 (0, 0)) ∧ PartAt w' (fun k => w.heap.size ≤ k) 64 tb p ∧ Below w.heap.size w w'
 | .bad a n => e = .returned (.tuple #[.pointer none, .int .i64 a, .int .i64 n]) ∧ Below w.heap.size w w'
set_option maxRecDepth 100000 in
set_option maxHeartbeats 2000000 in
theorem parse_idle (p5 p2 p3 p4 : Addr) (w : World) :
  CallsD Tryz.prog 135 #[.pointer (some p5), .pointer (some p2), .pointer (some p3), .pointer (some p4)] .returning w fun e u' w' => e = .returned (.tuple #[]) ∧ u' = .returning ∧ w' = w := by
 refine callsD_of_wpS Tryz.func135 rfl fun c₀ cs hu => ?_
 apply wpS_seq
 apply wpS_region
 simp [wpOpsS, go_sem, recoverD, hu, Tryz.ntmps135, Exit.thenS]
 simp only [Array.replicate, List.replicate, List.setIfInBounds_toArray, List.set_cons_zero, List.set_cons_succ, List.append_toArray, List.cons_append, List.nil_append]
 refine wpS_of_wp ?_
 refine Code.wp_mono (Q := fun e a' w' => (e = .normal ∨ e = .ret) ∧ a'.defers = [] ∧ w' = w) (fun e a' w' hq => ?hm) ?hw
 case hm =>
  obtain ⟨he, hd, rfl⟩ := hq
  have hx : bodyPostS Tryz.prog Tryz.f135 c₀ cs (fun e u' w' => e = .returned (.tuple #[]) ∧ u' = .returning ∧ w' = w') .ret a' (c₀ :: cs) w' := ⟨hd, .returning, by cases c₀; simp_all, .tuple #[], (by simp [results, Tryz.results135]), rfl, rfl, rfl⟩
  rcases he with rfl | rfl
  ·exact hx
  ·exact hx
 case hw =>
  go_wp2_with fail
set_option maxRecDepth 100000 in
set_option maxHeartbeats 2000000 in
theorem parse_catch (a n : Int) (older : List PanicEntry) (p5 p2 p3 p4 : Nat) (v2 v3 v4 : Value) (w : World) (h2 : w.heap[p2]? = some (.cells #[v2] 132 (0, 0))) (h3 : w.heap[p3]? = some (.cells #[v3] 3 (0, 0))) (h4 : w.heap[p4]? = some (.cells #[v4] 32 (0, 0))) (hne : p2 ≠ p3 ∧ p2 ≠ p4 ∧ p3 ≠ p4) :
  CallsD Tryz.prog 135 #[.pointer (some ⟨p5, 0, none⟩), .pointer (some ⟨p2, 0, none⟩), .pointer (some ⟨p3, 0, none⟩), .pointer (some ⟨p4, 0, none⟩)] (.panicking ({ v := .iface 193 (.agg #[.int .i64 a, .int .i64 n]), recovered := false } :: older)) w fun e u' w' =>
   e = .returned (.tuple #[]) ∧ u' = .panicking ({ v := .iface 193 (.agg #[.int .i64 a, .int .i64 n]), recovered := true } :: older) ∧ w'.cell? ⟨p2, 0, none⟩ = some (.pointer none) ∧ w'.cell? ⟨p3, 0, none⟩ = some (.int .i64 a) ∧ w'.cell? ⟨p4, 0, none⟩ = some (.int .i64 n) ∧ Apart (fun k => k = p2 ∨ k = p3 ∨ k = p4) w w' := by
 refine callsD_of_wpS Tryz.func135 rfl fun c₀ cs hu => ?_
 apply wpS_seq
 apply wpS_region
 simp [wpOpsS, go_sem, recoverD, hu, Tryz.ntmps135, Exit.thenS]
 simp only [Array.replicate, List.replicate, List.setIfInBounds_toArray, List.set_cons_zero, List.set_cons_succ, List.append_toArray, List.cons_append, List.nil_append]
 refine wpS_of_wp ?_
 refine Code.wp_mono (Q := fun e a' w' => (e = .normal ∨ e = .ret) ∧ a'.defers = [] ∧ w'.cell? ⟨p2, 0, none⟩ = some (.pointer none) ∧ w'.cell? ⟨p3, 0, none⟩ = some (.int .i64 a) ∧ w'.cell? ⟨p4, 0, none⟩ = some (.int .i64 n) ∧ Apart (fun k => k = p2 ∨ k = p3 ∨ k = p4) w w') (fun e a' w' hq => ?hm) ?hw
 case hm =>
  obtain ⟨he, hd, g2, g3, g4, hA⟩ := hq
  rcases he with rfl | rfl
  ·exact ⟨hd, _, rfl, .tuple #[], (by simp [results, Tryz.results135]), rfl, rfl, g2, g3, g4, hA⟩
  ·exact ⟨hd, _, rfl, .tuple #[], (by simp [results, Tryz.results135]), rfl, rfl, g2, g3, g4, hA⟩
 case hw =>
  have hta : ∀ W, (Instr.typeAssert (.iface 193 (.agg #[.int .i64 a, .int .i64 n])) 20 193 true).run Tryz.prog W = .ok (.tuple #[.agg #[.int .i64 a, .int .i64 n], .bool true]) W := fun _ => by kernel_rfl
  have hb := balloc (Below.refl w.heap.size w) (.cells #[.int .i64 a, .int .i64 n] 193)
  have x2 := blk_below h2 hb
  have x3 := blk_below h3 hb
  have x4 := blk_below h4 hb
  have xf := blk_new w (.cells #[.int .i64 a, .int .i64 n] 193)
  have HB := Lib.hid hb
  have l2 : p2 < w.heap.size := (Array.getElem?_eq_some_iff.1 h2).1
  have l3 : p3 < w.heap.size := (Array.getElem?_eq_some_iff.1 h3).1
  have l4 : p4 < w.heap.size := (Array.getElem?_eq_some_iff.1 h4).1
  clear h2 h3 h4 hb
  go_wp2_with fail
  generalize w.alloc (.cells #[.int .i64 a, .int .i64 n] 193) = W at *
  have y2 := setCell_blk (i := 0) (.pointer none) (show W.drew.heap[p2]? = _ from x2)
  have y3 : (W.drew.setCell ⟨p2, 0, none⟩ (.pointer none)).heap[p3]? = _ := (Below.heap_setCell _ _ _ _ (show p3 ≠ p2 from fun e => hne.1 e.symm)).trans x3
  have y4 : (W.drew.setCell ⟨p2, 0, none⟩ (.pointer none)).heap[p4]? = _ := (Below.heap_setCell _ _ _ _ (show p4 ≠ p2 from fun e => hne.2.1 e.symm)).trans x4
  have yf : (W.drew.setCell ⟨p2, 0, none⟩ (.pointer none)).heap[w.heap.size]? = _ := (Below.heap_setCell _ _ _ _ (show w.heap.size ≠ p2 by omega)).trans xf
  have z2 := (Below.heap_setCell (W.drew.setCell ⟨p2, 0, none⟩ (.pointer none)) ⟨p3, 0, none⟩ (.int .i64 a) p2 (show p2 ≠ p3 from hne.1)).trans y2
  have z3 := setCell_blk (i := 0) (.int .i64 a) y3
  have z4 := (Below.heap_setCell (W.drew.setCell ⟨p2, 0, none⟩ (.pointer none)) ⟨p3, 0, none⟩ (.int .i64 a) p4 (show p4 ≠ p3 from fun e => hne.2.2 e.symm)).trans y4
  have zf := (Below.heap_setCell (W.drew.setCell ⟨p2, 0, none⟩ (.pointer none)) ⟨p3, 0, none⟩ (.int .i64 a) w.heap.size (show w.heap.size ≠ p3 by omega)).trans yf
  have k2 : W.drew.cell? ⟨p2, 0, none⟩ = some v2 := by simpa using blk_cell (show W.drew.heap[p2]? = _ from x2) 0
  have k3 : (W.drew.setCell ⟨p2, 0, none⟩ (.pointer none)).cell? ⟨p3, 0, none⟩ = some v3 := by simpa using blk_cell y3 0
  have k4 : ((W.drew.setCell ⟨p2, 0, none⟩ (.pointer none)).setCell ⟨p3, 0, none⟩ (.int .i64 a)).cell? ⟨p4, 0, none⟩ = some v4 := by simpa using blk_cell z4 0
  have f2 : W.drew.frozen? ⟨p2, 0, none⟩ = false := free_blk (i := 0) (show W.drew.heap[p2]? = _ from x2)
  have f3 : (W.drew.setCell ⟨p2, 0, none⟩ (.pointer none)).frozen? ⟨p3, 0, none⟩ = false := free_blk (i := 0) y3
  have f4 : ((W.drew.setCell ⟨p2, 0, none⟩ (.pointer none)).setCell ⟨p3, 0, none⟩ (.int .i64 a)).frozen? ⟨p4, 0, none⟩ = false := free_blk (i := 0) z4
  have zf2 := (Below.heap_setCell ((W.drew.setCell ⟨p2, 0, none⟩ (.pointer none)).setCell ⟨p3, 0, none⟩ (.int .i64 a)) ⟨p4, 0, none⟩ (.int .i64 n) w.heap.size (show w.heap.size ≠ p4 by omega)).trans zf
  have z42 := (Below.heap_setCell ((W.drew.setCell ⟨p2, 0, none⟩ (.pointer none)).setCell ⟨p3, 0, none⟩ (.int .i64 a)) ⟨p4, 0, none⟩ (.int .i64 n) p2 (show p2 ≠ p4 from hne.2.1)).trans z2
  have z43 := (Below.heap_setCell ((W.drew.setCell ⟨p2, 0, none⟩ (.pointer none)).setCell ⟨p3, 0, none⟩ (.int .i64 a)) ⟨p4, 0, none⟩ (.int .i64 n) p3 (show p3 ≠ p4 from hne.2.2)).trans z3
  have z44 := setCell_blk (i := 0) (.int .i64 n) z4
  have s0 : W.drew.cell? ⟨w.heap.size, 0, none⟩ = some (.int .i64 a) ∧ W.drew.cell? ⟨w.heap.size, 1, none⟩ = some (.int .i64 n) := ⟨by simpa using blk_cell (show W.drew.heap[w.heap.size]? = _ from xf) 0, by simpa using blk_cell (show W.drew.heap[w.heap.size]? = _ from xf) 1⟩
  have s1 : (W.drew.setCell ⟨p2, 0, none⟩ (.pointer none)).cell? ⟨w.heap.size, 0, none⟩ = some (.int .i64 a) ∧ (W.drew.setCell ⟨p2, 0, none⟩ (.pointer none)).cell? ⟨w.heap.size, 1, none⟩ = some (.int .i64 n) := ⟨by simpa using blk_cell yf 0, by simpa using blk_cell yf 1⟩
  have s2 : ((W.drew.setCell ⟨p2, 0, none⟩ (.pointer none)).setCell ⟨p3, 0, none⟩ (.int .i64 a)).cell? ⟨w.heap.size, 0, none⟩ = some (.int .i64 a) ∧ ((W.drew.setCell ⟨p2, 0, none⟩ (.pointer none)).setCell ⟨p3, 0, none⟩ (.int .i64 a)).cell? ⟨w.heap.size, 1, none⟩ = some (.int .i64 n) := ⟨by simpa using blk_cell zf 0, by simpa using blk_cell zf 1⟩
  have s3 : (((W.drew.setCell ⟨p2, 0, none⟩ (.pointer none)).setCell ⟨p3, 0, none⟩ (.int .i64 a)).setCell ⟨p4, 0, none⟩ (.int .i64 n)).cell? ⟨w.heap.size, 0, none⟩ = some (.int .i64 a) ∧ (((W.drew.setCell ⟨p2, 0, none⟩ (.pointer none)).setCell ⟨p3, 0, none⟩ (.int .i64 a)).setCell ⟨p4, 0, none⟩ (.int .i64 n)).cell? ⟨w.heap.size, 1, none⟩ = some (.int .i64 n) := ⟨by simpa using blk_cell zf2 0, by simpa using blk_cell zf2 1⟩
  have hfin : (((W.drew.setCell ⟨p2, 0, none⟩ (.pointer none)).setCell ⟨p3, 0, none⟩ (.int .i64 a)).setCell ⟨p4, 0, none⟩ (.int .i64 n)).cell? ⟨p2, 0, none⟩ = some (.pointer none) ∧ (((W.drew.setCell ⟨p2, 0, none⟩ (.pointer none)).setCell ⟨p3, 0, none⟩ (.int .i64 a)).setCell ⟨p4, 0, none⟩ (.int .i64 n)).cell? ⟨p3, 0, none⟩ = some (.int .i64 a) ∧ (((W.drew.setCell ⟨p2, 0, none⟩ (.pointer none)).setCell ⟨p3, 0, none⟩ (.int .i64 a)).setCell ⟨p4, 0, none⟩ (.int .i64 n)).cell? ⟨p4, 0, none⟩ = some (.int .i64 n) ∧ Apart (fun k => k = p2 ∨ k = p3 ∨ k = p4) w (((W.drew.setCell ⟨p2, 0, none⟩ (.pointer none)).setCell ⟨p3, 0, none⟩ (.int .i64 a)).setCell ⟨p4, 0, none⟩ (.int .i64 n)) :=
   ⟨by simpa using blk_cell z42 0, by simpa using blk_cell z43 0, by simpa using blk_cell z44 0, ((((below_apart HB.out (fun k => k = p2 ∨ k = p3 ∨ k = p4)).drew).setC ⟨p2, 0, none⟩ (.inl (.inl rfl)) _).setC ⟨p3, 0, none⟩ (.inl (.inr (.inl rfl))) _).setC ⟨p4, 0, none⟩ (.inl (.inr (.inr rfl))) _⟩
  have HFin := Lib.hid hfin
  have k3' : (W.setCell ⟨p2, 0, none⟩ (.pointer none)).drew.cell? ⟨p3, 0, none⟩ = some v3 := k3
  have k4' : ((W.setCell ⟨p2, 0, none⟩ (.pointer none)).setCell ⟨p3, 0, none⟩ (.int .i64 a)).drew.cell? ⟨p4, 0, none⟩ = some v4 := k4
  have f3' : (W.setCell ⟨p2, 0, none⟩ (.pointer none)).drew.frozen? ⟨p3, 0, none⟩ = false := f3
  have f4' : ((W.setCell ⟨p2, 0, none⟩ (.pointer none)).setCell ⟨p3, 0, none⟩ (.int .i64 a)).drew.frozen? ⟨p4, 0, none⟩ = false := f4
  clear x2 x3 x4 xf y2 y3 y4 yf z2 z3 z4 zf zf2 z42 z43 z44 hfin l2 l3 l4
  go_region_held3 (fun w' => w'.cell? ⟨w.heap.size, 0, none⟩ = some (.int .i64 a) ∧ w'.cell? ⟨w.heap.size, 1, none⟩ = some (.int .i64 n)) (first | exact s0 | exact s1 | exact s2 | exact s3) (fail)
  exact ⟨.inl rfl, rfl, HFin.out⟩
theorem alloc_at (w : World) (o : Obj) {n : Nat} (h : n = w.heap.size) : (w.alloc o).heap[n]? = some o := by rw [h]; exact blk_new w o
set_option maxRecDepth 100000 in
set_option maxHeartbeats 4000000 in
theorem rex_parse (s : ByteArray) (w : World) (hT : Tabs w) (h2 : 2 ≤ w.heap.size) :
  Calls Tryz.prog 112 #[.string s] w (ParsePost w s (parseF s)) := by
 have hmf : ∀ (fn : Fn) (first cap : Array Value) (w : World), (Instr.makeFunc fn first cap).run Tryz.prog w = .ok (.func fn first cap) w := fun _ _ _ _ => rfl
 by_cases h256 : 256 < s.size
 ·have hd : decide ((256 : Int) < (s.size : Int)) = true := decide_eq_true (by omega)
  have hres : parseF s = .bad 0 3 := by unfold parseF; rw [if_pos h256]
  have HRes := Lib.hid hres
  generalize parseF s = res at *
  clear hres
  go_enter_defers Tryz.func112, Tryz.ntmps112
  go_wp2_with fail
  have hfin : ParsePost w s res (.returned (.tuple #[.pointer none, .int .i64 0, .int .i64 3])) (((w.alloc (.cells #[.pointer none] 132)).alloc (.cells #[.int .i64 0] 3)).alloc (.cells #[.int .i64 3] 32)) := by
   rw [HRes.out]
   exact ⟨rfl, balloc (balloc (balloc (Below.refl _ _) _) _) _⟩
  have HFin := Lib.hid hfin
  clear hfin
  refine ⟨_, ?_, HFin.out⟩
  simp [results, Tryz.results112, go_sem]
 ·have hd : decide ((256 : Int) < (s.size : Int)) = false := decide_eq_false (by omega)
  have hres : parseF s = (patF s 21 ⟨0, 0, 0⟩).on fun p r => if r.at_ < (s.size : Int) then .bad r.at_ 8 else .ok p r := by unfold parseF; rw [if_neg h256]
  have HRes := Lib.hid hres
  generalize parseF s = res at *
  have hw0 : Below w.heap.size w (((((w.alloc (.cells #[.pointer none] 132)).alloc (.cells #[.int .i64 0] 3)).alloc (.cells #[.int .i64 0] 32)).alloc (.cells #[.string s, .int .i64 0, .int .i64 0, .int .i64 0] 191)).alloc (.cells #[.pointer (some ⟨w.heap.size + 1 + 1 + 1, 0, none⟩)] 189)) := balloc (balloc (balloc (balloc (balloc (Below.refl _ _) _) _) _) _) _
  have q2 : (((((w.alloc (.cells #[.pointer none] 132)).alloc (.cells #[.int .i64 0] 3)).alloc (.cells #[.int .i64 0] 32)).alloc (.cells #[.string s, .int .i64 0, .int .i64 0, .int .i64 0] 191)).alloc (.cells #[.pointer (some ⟨w.heap.size + 1 + 1 + 1, 0, none⟩)] 189)).heap[w.heap.size]? = some (.cells #[.pointer none] 132 (0, 0)) := blk_below (alloc_at w _ rfl) (balloc (balloc (balloc (balloc (Below.refl _ _) _) _) _) _)
  have q3 : (((((w.alloc (.cells #[.pointer none] 132)).alloc (.cells #[.int .i64 0] 3)).alloc (.cells #[.int .i64 0] 32)).alloc (.cells #[.string s, .int .i64 0, .int .i64 0, .int .i64 0] 191)).alloc (.cells #[.pointer (some ⟨w.heap.size + 1 + 1 + 1, 0, none⟩)] 189)).heap[w.heap.size + 1]? = some (.cells #[.int .i64 0] 3 (0, 0)) := blk_below (alloc_at (w.alloc (.cells #[.pointer none] 132)) _ (by simp)) (balloc (balloc (balloc (Below.refl _ _) _) _) _)
  have q4 : (((((w.alloc (.cells #[.pointer none] 132)).alloc (.cells #[.int .i64 0] 3)).alloc (.cells #[.int .i64 0] 32)).alloc (.cells #[.string s, .int .i64 0, .int .i64 0, .int .i64 0] 191)).alloc (.cells #[.pointer (some ⟨w.heap.size + 1 + 1 + 1, 0, none⟩)] 189)).heap[w.heap.size + 1 + 1]? = some (.cells #[.int .i64 0] 32 (0, 0)) := blk_below (alloc_at ((w.alloc (.cells #[.pointer none] 132)).alloc (.cells #[.int .i64 0] 3)) _ (by simp)) (balloc (balloc (Below.refl _ _) _) _)
  have qr : RdAt (((((w.alloc (.cells #[.pointer none] 132)).alloc (.cells #[.int .i64 0] 3)).alloc (.cells #[.int .i64 0] 32)).alloc (.cells #[.string s, .int .i64 0, .int .i64 0, .int .i64 0] 191)).alloc (.cells #[.pointer (some ⟨w.heap.size + 1 + 1 + 1, 0, none⟩)] 189)) (w.heap.size + 1 + 1 + 1) s ⟨0, 0, 0⟩ := blk_below (alloc_at (((w.alloc (.cells #[.pointer none] 132)).alloc (.cells #[.int .i64 0] 3)).alloc (.cells #[.int .i64 0] 32)) _ (by simp)) (balloc (Below.refl _ _) _)
  have q5 : (((((w.alloc (.cells #[.pointer none] 132)).alloc (.cells #[.int .i64 0] 3)).alloc (.cells #[.int .i64 0] 32)).alloc (.cells #[.string s, .int .i64 0, .int .i64 0, .int .i64 0] 191)).alloc (.cells #[.pointer (some ⟨w.heap.size + 1 + 1 + 1, 0, none⟩)] 189)).heap[w.heap.size + 1 + 1 + 1 + 1]? = some (.cells #[.pointer (some ⟨w.heap.size + 1 + 1 + 1, 0, none⟩)] 189 (0, 0)) := alloc_at ((((w.alloc (.cells #[.pointer none] 132)).alloc (.cells #[.int .i64 0] 3)).alloc (.cells #[.int .i64 0] 32)).alloc (.cells #[.string s, .int .i64 0, .int .i64 0, .int .i64 0] 191)) _ (by simp)
  have hsz : (((((w.alloc (.cells #[.pointer none] 132)).alloc (.cells #[.int .i64 0] 3)).alloc (.cells #[.int .i64 0] 32)).alloc (.cells #[.string s, .int .i64 0, .int .i64 0, .int .i64 0] 191)).alloc (.cells #[.pointer (some ⟨w.heap.size + 1 + 1 + 1, 0, none⟩)] 189)).heap.size = w.heap.size + 5 := by simp
  have hrx : RxW (((((w.alloc (.cells #[.pointer none] 132)).alloc (.cells #[.int .i64 0] 3)).alloc (.cells #[.int .i64 0] 32)).alloc (.cells #[.string s, .int .i64 0, .int .i64 0, .int .i64 0] 191)).alloc (.cells #[.pointer (some ⟨w.heap.size + 1 + 1 + 1, 0, none⟩)] 189)) (w.heap.size + 1 + 1 + 1) s ⟨0, 0, 0⟩ (((((w.alloc (.cells #[.pointer none] 132)).alloc (.cells #[.int .i64 0] 3)).alloc (.cells #[.int .i64 0] 32)).alloc (.cells #[.string s, .int .i64 0, .int .i64 0, .int .i64 0] 191)).alloc (.cells #[.pointer (some ⟨w.heap.size + 1 + 1 + 1, 0, none⟩)] 189)) := RxW.start qr (hT.below hw0 h2) (by omega) ⟨by show (0 : Int) ≤ 0; omega, by show (0 : Int) ≤ _; omega, by show (0 : Int) ≤ 0; omega, by show (0 : Int) ≤ 20; omega⟩ (by omega)
  have HRx := Lib.hid hrx
  have HBw := Lib.hid hw0
  have Hsz := Lib.hid hsz
  clear hres h256 hw0 hsz hrx qr hT h2
  go_enter_defers Tryz.func112, Tryz.ntmps112
  go_wp2_with fail
  generalize (((((w.alloc (.cells #[.pointer none] 132)).alloc (.cells #[.int .i64 0] 3)).alloc (.cells #[.int .i64 0] 32)).alloc (.cells #[.string s, .int .i64 0, .int .i64 0, .int .i64 0] 191)).alloc (.cells #[.pointer (some ⟨w.heap.size + 1 + 1 + 1, 0, none⟩)] 189)) = W at *
  generalize e5 : w.heap.size + 1 + 1 + 1 + 1 = p5 at *
  generalize er : w.heap.size + 1 + 1 + 1 = rb at *
  generalize e4 : w.heap.size + 1 + 1 = p4 at *
  generalize e3 : w.heap.size + 1 = p3 at *
  obtain ⟨p2, e2⟩ : ∃ p, p = w.heap.size := ⟨_, rfl⟩
  rw [← e2] at q2 ⊢
  have Hps : Hid (p2 = w.heap.size ∧ p3 = w.heap.size + 1 ∧ p4 = w.heap.size + 2 ∧ rb = w.heap.size + 3 ∧ p5 = w.heap.size + 4) := Lib.hid (by omega)
  have Hne : Hid (p2 ≠ p3 ∧ p2 ≠ p4 ∧ p3 ≠ p4) := Lib.hid (by omega)
  have HQ2 := Lib.hid q2
  have HQ3 := Lib.hid q3
  have HQ4 := Lib.hid q4
  clear e5 er e4 e3 e2
  refine (rex_top HRx.out rfl).mono ?_
  rintro e w1 hpost
  have hnr := Hps.out
  cases hp : patF s 21 ⟨0, 0, 0⟩ with
  | bad a n =>
   rw [hp] at hpost
   obtain ⟨rfl, hA⟩ := hpost
   have HBad : Hid (res = .bad a n) := Lib.hid (by rw [HRes.out, hp]; rfl)
   have r2 := (hA.block p2 (Array.getElem?_eq_some_iff.1 q2).1 (by omega)).trans q2
   have r3 := (hA.block p3 (Array.getElem?_eq_some_iff.1 q3).1 (by omega)).trans q3
   have r4 := (hA.block p4 (Array.getElem?_eq_some_iff.1 q4).1 (by omega)).trans q4
   have hap : Apart (fun k => w.heap.size ≤ k) w w1 := (below_apart HBw.out _).trans hA (fun i hi e => by omega)
   refine leaves_cons (f := 135) (args := #[.pointer (some ⟨p5, 0, none⟩), .pointer (some ⟨p2, 0, none⟩), .pointer (some ⟨p3, 0, none⟩), .pointer (some ⟨p4, 0, none⟩)]) (by simp) (by simp [go_sem]) ?_
   refine (parse_catch a n [] p5 p2 p3 p4 _ _ _ _ r2 r3 r4 Hne.out).mono ?_
   rintro e u' w9 ⟨rfl, rfl, g2, g3, g4, hA9⟩
   have hfin : ParsePost w s res (.returned (.tuple #[.pointer none, .int .i64 a, .int .i64 n])) w9 := by
    rw [HBad.out]
    exact ⟨rfl, (hap.trans hA9 (Q := fun k => k = p2 ∨ k = p3 ∨ k = p4) (P := fun k => w.heap.size ≤ k) (fun i _ hi => by have := Hps.out; omega)).below (Nat.le_refl _) (fun k hk => by omega)⟩
   simp only [settle, List.dropWhile_nil]
   exact ⟨_, by simp [results, Tryz.results112, go_sem, g2, g3, g4], hfin⟩
  | ok p r3 =>
   rw [hp] at hpost
   obtain ⟨v, rfl, ⟨tb, rfl, hPa⟩, hW1⟩ := hpost
   have HPa := Lib.hid hPa
   have HW1 := Lib.hid hW1
   have r2 := (hW1.apart.block p2 (Array.getElem?_eq_some_iff.1 q2).1 (by omega)).trans q2
   have r3' := (hW1.apart.block p3 (Array.getElem?_eq_some_iff.1 q3).1 (by omega)).trans q3
   have r4 := (hW1.apart.block p4 (Array.getElem?_eq_some_iff.1 q4).1 (by omega)).trans q4
   have r5 := (hW1.apart.block p5 (Array.getElem?_eq_some_iff.1 q5).1 (by omega)).trans q5
   have hap : Apart (fun k => w.heap.size ≤ k) w w1 := (below_apart HBw.out _).trans hW1.apart (fun i hi e => by omega)
   have HAp := Lib.hid hap
   obtain ⟨c0, c1, c2, c3⟩ := hW1.rd.cells
   have c5 := blk_cell r5 0
   simp at c5
   by_cases hlt : r3.at_ < (s.size : Int)
   ·have hd2 : decide (r3.at_ < (s.size : Int)) = true := decide_eq_true hlt
    have HBad : Hid (res = .bad r3.at_ 8) := Lib.hid (by rw [HRes.out, hp]; show (if r3.at_ < (s.size : Int) then _ else _) = _; rw [if_pos hlt])
    clear hp hPa hW1 hlt hnr
    go_wp2_with fail
    refine (HW1.out.bad 8).mono ?_
    rintro e w8 ⟨rfl, rfl⟩
    refine leaves_cons (f := 135) (args := #[.pointer (some ⟨p5, 0, none⟩), .pointer (some ⟨p2, 0, none⟩), .pointer (some ⟨p3, 0, none⟩), .pointer (some ⟨p4, 0, none⟩)]) (by simp) (by simp [go_sem]) ?_
    refine (parse_catch r3.at_ 8 [] p5 p2 p3 p4 _ _ _ _ r2 r3' r4 Hne.out).mono ?_
    rintro e u' w9 ⟨rfl, rfl, g2, g3, g4, hA9⟩
    have hfin : ParsePost w s res (.returned (.tuple #[.pointer none, .int .i64 r3.at_, .int .i64 8])) w9 := by
     rw [HBad.out]
     exact ⟨rfl, (HAp.out.trans hA9 (Q := fun k => k = p2 ∨ k = p3 ∨ k = p4) (P := fun k => w.heap.size ≤ k) (fun i _ hi => by have := Hps.out; omega)).below (Nat.le_refl _) (fun k hk => by omega)⟩
    simp only [settle, List.dropWhile_nil]
    exact ⟨_, by simp [results, Tryz.results112, go_sem, g2, g3, g4], hfin⟩
   ·have hd2 : decide (r3.at_ < (s.size : Int)) = false := decide_eq_false hlt
    have HOk : Hid (res = .ok p r3) := Lib.hid (by rw [HRes.out, hp]; show (if r3.at_ < (s.size : Int) then _ else _) = _; rw [if_neg hlt])
    have HR2 := Lib.hid r2
    have HR3 := Lib.hid r3'
    have HR4 := Lib.hid r4
    have hge : p4 < w1.heap.size := (Array.getElem?_eq_some_iff.1 r4).1
    clear hp hPa hW1 hlt r5
    obtain ⟨OX, hox⟩ : ∃ o : Obj, o = .cells #[.string s, .pointer (some ⟨tb, 0, none⟩), .int .i64 r3.size] 199 (0, 0) := ⟨_, rfl⟩
    have hb := balloc (Below.refl w1.heap.size w1) OX
    have x2 := blk_below HR2.out hb
    have x3 := blk_below HR3.out hb
    have x4 := blk_below HR4.out hb
    have xf := blk_new w1 OX
    have y2 := setCell_blk (i := 0) (.pointer (some ⟨w1.heap.size, 0, none⟩)) x2
    have y3 := (Below.heap_setCell (w1.alloc OX) ⟨p2, 0, none⟩ (.pointer (some ⟨w1.heap.size, 0, none⟩)) p3 (show p3 ≠ p2 by omega)).trans x3
    have y4 := (Below.heap_setCell (w1.alloc OX) ⟨p2, 0, none⟩ (.pointer (some ⟨w1.heap.size, 0, none⟩)) p4 (show p4 ≠ p2 by omega)).trans x4
    have yf := (Below.heap_setCell (w1.alloc OX) ⟨p2, 0, none⟩ (.pointer (some ⟨w1.heap.size, 0, none⟩)) w1.heap.size (show w1.heap.size ≠ p2 by omega)).trans xf
    have k2 := blk_cell x2 0
    have k3 := blk_cell y3 0
    have f2 : (w1.alloc OX).frozen? ⟨p2, 0, none⟩ = false := free_blk (i := 0) x2
    have f3 := free_blk (i := 0) y3
    have z2 := (Below.heap_setCell ((w1.alloc OX).setCell ⟨p2, 0, none⟩ (.pointer (some ⟨w1.heap.size, 0, none⟩))) ⟨p3, 0, none⟩ (.int .i64 0) p2 (show p2 ≠ p3 by omega)).trans y2
    have z3 := setCell_blk (i := 0) (.int .i64 0) y3
    have z4 := (Below.heap_setCell ((w1.alloc OX).setCell ⟨p2, 0, none⟩ (.pointer (some ⟨w1.heap.size, 0, none⟩))) ⟨p3, 0, none⟩ (.int .i64 0) p4 (show p4 ≠ p3 by omega)).trans y4
    have zf := (Below.heap_setCell ((w1.alloc OX).setCell ⟨p2, 0, none⟩ (.pointer (some ⟨w1.heap.size, 0, none⟩))) ⟨p3, 0, none⟩ (.int .i64 0) w1.heap.size (show w1.heap.size ≠ p3 by omega)).trans yf
    have k4 := blk_cell z4 0
    have f4 := free_blk (i := 0) z4
    have v2 := (Below.heap_setCell (((w1.alloc OX).setCell ⟨p2, 0, none⟩ (.pointer (some ⟨w1.heap.size, 0, none⟩))).setCell ⟨p3, 0, none⟩ (.int .i64 0)) ⟨p4, 0, none⟩ (.int .i64 0) p2 (show p2 ≠ p4 by omega)).trans z2
    have v3 := (Below.heap_setCell (((w1.alloc OX).setCell ⟨p2, 0, none⟩ (.pointer (some ⟨w1.heap.size, 0, none⟩))).setCell ⟨p3, 0, none⟩ (.int .i64 0)) ⟨p4, 0, none⟩ (.int .i64 0) p3 (show p3 ≠ p4 by omega)).trans z3
    have v4 := setCell_blk (i := 0) (.int .i64 0) z4
    have vf := (Below.heap_setCell (((w1.alloc OX).setCell ⟨p2, 0, none⟩ (.pointer (some ⟨w1.heap.size, 0, none⟩))).setCell ⟨p3, 0, none⟩ (.int .i64 0)) ⟨p4, 0, none⟩ (.int .i64 0) w1.heap.size (show w1.heap.size ≠ p4 by omega)).trans zf
    have hA1 : Apart (fun k => k = p2 ∨ k = p3 ∨ k = p4) w1 ((((w1.alloc OX).setCell ⟨p2, 0, none⟩ (.pointer (some ⟨w1.heap.size, 0, none⟩))).setCell ⟨p3, 0, none⟩ (.int .i64 0)).setCell ⟨p4, 0, none⟩ (.int .i64 0)) :=
     (((below_apart hb (fun k => k = p2 ∨ k = p3 ∨ k = p4)).setC ⟨p2, 0, none⟩ (.inl (.inl rfl)) _).setC ⟨p3, 0, none⟩ (.inl (.inr (.inl rfl))) _).setC ⟨p4, 0, none⟩ (.inl (.inr (.inr rfl))) _
    have hfin : ParsePost w s res (.returned (.tuple #[.pointer (some ⟨w1.heap.size, 0, none⟩), .int .i64 0, .int .i64 0])) ((((w1.alloc OX).setCell ⟨p2, 0, none⟩ (.pointer (some ⟨w1.heap.size, 0, none⟩))).setCell ⟨p3, 0, none⟩ (.int .i64 0)).setCell ⟨p4, 0, none⟩ (.int .i64 0)) := by
     rw [HOk.out]
     exact ⟨w1.heap.size, tb, rfl, hap.size, by rw [← hox]; exact vf, PartAt.move hA1.size (fun j hj hD => hA1.block j hj (by have := Hsz.out; omega)) (fun j _ hD => by have := HBw.out.size; omega) _ _ _ HPa.out, (hap.trans hA1 (fun i _ hi => by omega)).below (Nat.le_refl _) (fun k hk => by omega)⟩
    have HFin := Lib.hid hfin
    have g2 := blk_cell v2 0
    have g3 := blk_cell v3 0
    have g4 := blk_cell v4 0
    simp at k2 k3 k4 g2 g3 g4
    subst hox
    clear x2 x3 x4 xf y2 y3 y4 yf z2 z3 z4 zf v2 v3 v4 vf hA1 hfin hb hap r2 r3' r4 q2 q3 q4 q5 hnr
    go_wp2_with fail
    refine leaves_cons (f := 135) (args := #[.pointer (some ⟨p5, 0, none⟩), .pointer (some ⟨p2, 0, none⟩), .pointer (some ⟨p3, 0, none⟩), .pointer (some ⟨p4, 0, none⟩)]) (by simp) (by simp [go_sem]) ?_
    refine (parse_idle ⟨p5, 0, none⟩ ⟨p2, 0, none⟩ ⟨p3, 0, none⟩ ⟨p4, 0, none⟩ _).mono ?_
    rintro e u' w9 ⟨rfl, rfl, rfl⟩
    simp only [settle]
    exact ⟨_, by simp [results, Tryz.results112, go_sem, g2, g3, g4], HFin.out⟩
end Go.Proofs.YtlhmdgaohonpbaaGreatDoor
