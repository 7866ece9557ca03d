import Derived.Test.YtlhmdgaohonpbaaGreatDoorGRxC
import Derived.Test.YtlhmdgaohonpbaaGreatDoorGRxA
set_option linter.unusedSimpArgs false
set_option linter.unusedVariables false
set_option linter.unusedSectionVars false
namespace Go.Proofs.YtlhmdgaohonpbaaGreatDoor
open Go.RowKit Go.Proofs.YtlhmdgaohonpbaaGreatDoor.MapRaw Go.ChangeMaps
theorem rx_depth {w0 W : World} {rb : Nat} {s : ByteArray} {r : Rs} (h : RxW w0 rb s r W) (k : Int) (h0 : 0 ≤ k) (h1 : k ≤ 20) : RxW w0 rb s { r with depth := k } (W.setCell ⟨rb, 2, none⟩ (.int .i64 k)) ∧ Apart (fun k => k = rb) W (W.setCell ⟨rb, 2, none⟩ (.int .i64 k)) := by
 have hA := (Apart.refl (fun k => k = rb) W).setC ⟨rb, 2, none⟩ (.inl rfl) (.int .i64 k)
 exact ⟨h.turn (r' := { r with depth := k }) (setCell_blk (i := 2) (.int .i64 k) h.rd) hA ⟨h.ok.lo, h.ok.hi, h0, h1⟩, hA⟩
def PatC (s : ByteArray) (pat : Rs → Out Part) (hh : Nat) (dl : Int) : Prop := ∀ (w : World) (rb : Nat) (r : Rs), RxW w rb s r w → dl ≤ r.depth → Calls Tryz.prog 136 #[.pointer (some ⟨rb, 0, none⟩)] w (RxPost w rb s (PartV w hh) (pat r))
theorem part_turn {w W W' : World} {rb hh b : Nat} {p : Part} {lo : Nat} (h : PartAt W (fun k => lo ≤ k) hh b p) (hA : Apart (fun k => k = rb) W W') (hlo : rb < lo) (hw : w.heap.size ≤ lo) : PartAt W' (fun k => w.heap.size ≤ k) hh b p :=
 PartAt.move hA.size (fun k hk hD => hA.block k hk (by omega)) (fun k _ hD => by omega) hh b p h
theorem RxW.again {w0 W W' : World} {rb : Nat} {s : ByteArray} {r : Rs} (h : RxW W rb s r W') (hA : Apart (fun k => k = rb) w0 W) : RxW w0 rb s r W' := ⟨h.rd, h.tabs, hA.trans h.apart (fun _ _ h => h), h.b2, h.ok, h.sz⟩
theorem RxW.re {w0 W : World} {rb : Nat} {s : ByteArray} {r : Rs} (h : RxW w0 rb s r W) : RxW W rb s r W := RxW.start h.rd h.tabs h.b2 h.ok h.sz
set_option maxRecDepth 100000 in
set_option maxHeartbeats 2000000 in
theorem rex_group {w : World} {rb : Nat} {s : ByteArray} {r : Rs} {pat : Rs → Out Part} {hh : Nat} {dl : Int} (hP : PatC s pat hh dl) (hF : PatFwd s pat) (h : RxW w rb s r w) (hd : dl ≤ r.depth + 1) (hpk : peekF s r = .ok 40 r) :
  Calls Tryz.prog 165 #[.pointer (some ⟨rb, 0, none⟩)] w (RxPost w rb s (PartV w hh) (groupF pat s r)) := by
 have HW := Lib.hid h
 have hd0 := h.ok.d0
 have hd1 := h.ok.d1
 obtain ⟨c0, c1, c2, c3⟩ := h.rd.cells
 by_cases h20 : 20 ≤ r.depth
 ·have e20 : decide (20 ≤ r.depth) = true := decide_eq_true h20
  have hres : groupF pat s r = .bad r.at_ 60 := by unfold groupF; rw [if_pos h20]
  have HRes := Lib.hid hres
  generalize groupF pat s r = res at *
  clear h hres h20 hd hpk c0 c1 c3
  go_enter Tryz.func165, Tryz.ntmps165
  go_wp2_with fail
  refine (HW.out.bad 60).mono ?_
  rintro e w3 ⟨rfl, rfl⟩
  refine ⟨rfl, ?_⟩
  rw [HRes.out]
  exact ⟨rfl, HW.out.apart⟩
 ·have e20 : decide (20 ≤ r.depth) = false := decide_eq_false h20
  have hres : groupF pat s r = (pat { skipF 40 r with depth := r.depth + 1 }).on fun p r => (peekF s r).on fun c r => if c ≠ 41 then .bad r.at_ 8 else .ok p { skipF 41 r with depth := r.depth - 1 } := by unfold groupF; rw [if_neg h20]
  have HRes := Lib.hid hres
  generalize groupF pat s r = res at *
  have HPk := Lib.hid hpk
  have HD := Lib.hid hd
  have hsum : IntKind.i64.wrap (r.depth + 1) = r.depth + 1 := IntWalk.i64_in _ (by omega)
  have H20 : Hid (0 ≤ r.depth + 1 ∧ r.depth + 1 ≤ 20) := Lib.hid (by omega)
  clear h hres h20 hd hpk c0 c1 c3
  go_enter Tryz.func165, Tryz.ntmps165
  go_wp2_with fail
  refine (HW.out.skip HPk.out (by decide)).mono ?_
  rintro e w1 ⟨rfl, hW1, hA1⟩
  have HW1 := Lib.hid hW1
  obtain ⟨-, -, c2', -⟩ := hW1.rd.cells
  have e2 : (skipF 40 r).depth = r.depth := rfl
  rw [e2] at c2'
  have f2 : w1.frozen? ⟨rb, 2, none⟩ = false := free_blk (i := 2) hW1.rd
  have HW2 := Lib.hid (rx_depth hW1 (r.depth + 1) H20.out.1 H20.out.2).1
  clear hW1 hA1 c2 e2
  go_wp2_with fail
  generalize w1.setCell ⟨rb, 2, none⟩ (.int .i64 (r.depth + 1)) = w2 at *
  refine (hP w2 rb _ HW2.out.re HD.out).mono ?_
  rintro e w3 hpost
  cases hp : pat { skipF 40 r with depth := r.depth + 1 } with
  | bad a n =>
   rw [hp] at hpost
   obtain ⟨rfl, hA⟩ := hpost
   have HFin : Hid (RxPost w rb s (PartV w hh) res (BadE a n) w3) := Lib.hid (by rw [HRes.out, hp]; exact ⟨rfl, HW2.out.apart.trans hA (fun _ _ h => h)⟩)
   clear hp hA
   exact ⟨rfl, HFin.out⟩
  | ok q r3 =>
   have hfw := hF _ _ _ HW2.out.ok hp
   rw [hp] at hpost
   obtain ⟨v, rfl, ⟨b, rfl, hPa⟩, hW3⟩ := hpost
   have HPa := Lib.hid hPa
   have HRe := Lib.hid (hW3.re)
   have HA3 := Lib.hid (HW2.out.apart.trans hW3.apart (fun _ _ h => h))
   have HLt := Lib.hid HW2.out.rd.lt
   have HS2 := Lib.hid HW2.out.apart.size
   have HDp : Hid (r3.depth = r.depth + 1) := Lib.hid hfw.depth
   have hres3 : res = (peekF s r3).on fun c r => if c ≠ 41 then .bad r.at_ 8 else .ok q { skipF 41 r with depth := r.depth - 1 } := by rw [HRes.out, hp]; rfl
   have HRes3 := Lib.hid hres3
   have hpk3 := hW3.peek
   clear hp hPa hW3 hfw hres3
   cases hp3 : peekF s r3 with
   | bad a n =>
    rw [hp3] at hpk3
    have HPk3 := Lib.hid hpk3
    have HFin : Hid (∀ W, Apart (fun k => k = rb) w W → RxPost w rb s (PartV w hh) res (BadE a n) W) := Lib.hid (fun W hA => by rw [HRes3.out, hp3]; exact ⟨rfl, hA⟩)
    clear hpk3 hp3
    go_wp2_with fail
    refine HPk3.out.mono ?_
    rintro e w4 ⟨rfl, hb4⟩
    exact ⟨rfl, HFin.out _ (HA3.out.then hb4)⟩
   | ok c r9 =>
    obtain ⟨rfl, -⟩ := peek_ok HRe.out.ok.lo hp3
    rw [hp3] at hpk3
    have HPk3 := Lib.hid hpk3
    have HP3 := Lib.hid hp3
    clear hpk3 hp3
    go_wp2_with fail
    refine HPk3.out.mono ?_
    rintro e w4 ⟨rfl, hb4⟩
    have HA4 := Lib.hid (HA3.out.then hb4)
    have HB4 := Lib.hid hb4
    have HW4 := Lib.hid (HRe.out.below hb4).re
    clear hb4
    by_cases h41 : c = 41
    ·have e41 : (c != 41) = false := by simpa using h41
     subst h41
     have hsum9 : IntKind.i64.wrap (r9.depth - 1) = r9.depth - 1 := IntWalk.i64_in _ (by have := HDp.out; omega)
     have H9 : Hid (0 ≤ r9.depth - 1 ∧ r9.depth - 1 ≤ 20) := Lib.hid (by have := HDp.out; omega)
     go_wp2_with fail
     refine (HW4.out.skip HP3.out (by decide)).mono ?_
     rintro e w5 ⟨rfl, hW5, hA5⟩
     obtain ⟨-, -, c2, -⟩ := hW5.rd.cells
     have e2 : (skipF 41 r9).depth = r9.depth := rfl
     rw [e2] at c2
     have f5 : w5.frozen? ⟨rb, 2, none⟩ = false := free_blk (i := 2) hW5.rd
     have hfin : RxPost w rb s (PartV w hh) res (.returned (.pointer (some ⟨b, 0, none⟩))) (w5.setCell ⟨rb, 2, none⟩ (.int .i64 (r9.depth - 1))) := by
      obtain ⟨g1, g2⟩ := rx_depth hW5 (r9.depth - 1) H9.out.1 H9.out.2
      have g3 : Apart (fun k => k = rb) w4 (w5.setCell ⟨rb, 2, none⟩ (.int .i64 (r9.depth - 1))) := hA5.trans g2 (fun _ _ h => h)
      rw [HRes3.out, HP3.out]
      refine ⟨_, rfl, ⟨b, rfl, part_turn (rb := rb) HPa.out ((below_apart HB4.out (fun k => k = rb)).trans g3 (fun _ _ h => h)) HLt.out HS2.out⟩, g1.again HA4.out⟩
     have HFin := Lib.hid hfin
     clear hW5 hA5 hfin e2
     go_wp2_with fail
     go_ret
     exact HFin.out
    ·have e41 : (c != 41) = true := by simpa using h41
     have HFin : Hid (∀ W, Apart (fun k => k = rb) w W → RxPost w rb s (PartV w hh) res (BadE r9.at_ 8) W) := Lib.hid (fun W hA => by rw [HRes3.out, HP3.out]; show RxPost w rb s (PartV w hh) (if c ≠ 41 then _ else _) _ W; rw [if_pos h41]; exact ⟨rfl, hA⟩)
     clear h41
     go_wp2_with fail
     refine (HW4.out.bad 8).mono ?_
     rintro e w5 ⟨rfl, rfl⟩
     exact ⟨rfl, HFin.out _ HA4.out⟩
theorem part_leaf {W : World} {D : Nat → Prop} {sv : Value} {l : List Sp} {but plain : Bool} (h : Slc 2 Sp.enc W D sv l) (hD : D W.heap.size) : PartAt (W.alloc (.cells #[.int .i64 0, sv, .bool but, .bool plain, .slice none 0 0, .int .i32 0] 210)) D 1 W.heap.size (.mk 0 l but plain [] 0) :=
 ⟨hD, .inl rfl, sv, _, [], blk_new _ _, h.below (balloc (Below.refl _ _) _), Slc.nil _ _ _ _, rfl, fun i k hi => by simp at hi⟩
theorem PartV.le {w w' : World} {h h' : Nat} {p : Part} {v : Value} (hp : PartV w h w' p v) (hle : h ≤ h') : PartV w h' w' p v := by
 obtain ⟨b, e, hb⟩ := hp
 exact ⟨b, e, hb.le hle⟩
set_option maxRecDepth 100000 in
set_option maxHeartbeats 4000000 in
theorem rex_atom {w : World} {rb : Nat} {s : ByteArray} {r : Rs} {pat : Rs → Out Part} {hh : Nat} {dl : Int} {c : Int} (hP : PatC s pat hh dl) (hF : PatFwd s pat) (h1h : 1 ≤ hh) (h : RxW w rb s r w) (hd : dl ≤ r.depth + 1) (hpk : peekF s r = .ok c r) (hcm : c ≠ -1) :
  Calls Tryz.prog 158 #[.pointer (some ⟨rb, 0, none⟩)] w (RxPost w rb s (PartV w hh) (atomF pat s r)) := by
 have HW := Lib.hid h
 have hpeek := h.peek
 have hres : atomF pat s r = if c = 40 then groupF pat s r else if c = 91 then classF s (skipF c r) else if c = 46 then .ok (.mk 0 [] true false [] 0) (moreSz (skipF c r)) else if c = 92 then (escapeF s (skipF c r)).on fun x r => .ok (.mk 0 x.1 false x.2 [] 0) (moreSz r) else if specialF c = true then .bad r.at_ 8 else .ok (.mk 0 [⟨c, c⟩] false true [] 0) (moreSz (skipF c r)) := by
  unfold atomF; rw [hpk]; rfl
 rw [hpk] at hpeek
 have HPeek := Lib.hid hpeek
 have HP := Lib.hid hpk
 have HCm := Lib.hid hcm
 have HRes := Lib.hid hres
 have HD := Lib.hid hd
 have H1h := Lib.hid h1h
 have hszr : (skipF c r).size = r.size := rfl
 generalize atomF pat s r = res at *
 clear h hpeek hpk hcm hres hd h1h
 by_cases h40 : c = 40
 ·have e40 : (c == 40) = true := by simpa using h40
  subst h40
  have hr2 : res = groupF pat s r := by rw [HRes.out, if_pos rfl]
  have HR2 := Lib.hid hr2
  clear hr2
  go_enter Tryz.func158, Tryz.ntmps158
  go_wp2_with fail
  refine HPeek.out.mono ?_
  rintro e w1 ⟨rfl, hb⟩
  have HW1 := Lib.hid (HW.out.below hb)
  have HS1 := Lib.hid hb.size
  clear hb
  go_wp2_with fail
  refine (rex_group hP hF HW1.out.re HD.out HP.out).mono ?_
  rintro e w2 hpost
  rw [← HR2.out] at hpost
  cases hr : res with
  | bad a n =>
   rw [hr] at hpost
   obtain ⟨rfl, hA⟩ := hpost
   exact ⟨rfl, rfl, HW1.out.apart.trans hA (fun _ _ h => h)⟩
  | ok q r3 =>
   rw [hr] at hpost
   obtain ⟨v, rfl, ⟨b, rfl, hPa⟩, hW3⟩ := hpost
   have HFin : Hid (RxPost w rb s (PartV w hh) res (.returned (.pointer (some ⟨b, 0, none⟩))) w2) := Lib.hid (by rw [hr]; exact ⟨_, rfl, ⟨b, rfl, PartAt.move (Nat.le_refl _) (fun _ _ _ => rfl) (fun k _ hk => Nat.le_trans HS1.out hk) _ _ _ hPa⟩, hW3.again HW1.out.apart⟩)
   clear hPa hW3 hr
   go_wp2_with fail
   go_ret
   exact HFin.out
 ·have e40 : (c == 40) = false := by simpa using h40
  by_cases h91 : c = 91
  ·have e91 : (c == 91) = true := by simpa using h91
   have hr2 : res = classF s (skipF c r) := by rw [HRes.out, if_neg h40, if_pos h91]
   have HR2 := Lib.hid hr2
   clear hr2 h91 h40
   go_enter Tryz.func158, Tryz.ntmps158
   go_wp2_with fail
   refine HPeek.out.mono ?_
   rintro e w1 ⟨rfl, hb⟩
   have HW1 := Lib.hid (HW.out.below hb)
   have HS1 := Lib.hid hb.size
   clear hb
   go_wp2_with fail
   refine (HW1.out.skip HP.out HCm.out).mono ?_
   rintro e w2 ⟨rfl, hW2, hA2⟩
   have HW2 := Lib.hid hW2
   have HS2 := Lib.hid (Nat.le_trans HS1.out hA2.size)
   clear hA2
   clear hW2
   go_wp2_with fail
   refine (rex_class HW2.out.re).mono ?_
   rintro e w3 hpost
   rw [← HR2.out] at hpost
   cases hr : res with
   | bad a n =>
    rw [hr] at hpost
    obtain ⟨rfl, hA⟩ := hpost
    exact ⟨rfl, rfl, HW2.out.apart.trans hA (fun _ _ h => h)⟩
   | ok q r3 =>
    rw [hr] at hpost
    obtain ⟨v, rfl, ⟨b, rfl, hPa⟩, hW3⟩ := hpost
    have HFin : Hid (RxPost w rb s (PartV w hh) res (.returned (.pointer (some ⟨b, 0, none⟩))) w3) := Lib.hid (by rw [hr]; exact ⟨_, rfl, ⟨b, rfl, (PartAt.move (Nat.le_refl _) (fun _ _ _ => rfl) (fun k _ hk => Nat.le_trans HS2.out hk) _ _ _ hPa).le H1h.out⟩, hW3.again HW2.out.apart⟩)
    clear hPa hW3 hr
    go_wp2_with fail
    go_ret
    exact HFin.out
  ·have e91 : (c == 91) = false := by simpa using h91
   by_cases h46 : c = 46
   ·have e46 : (c == 46) = true := by simpa using h46
    have hr2 : res = .ok (.mk 0 [] true false [] 0) (moreSz (skipF c r)) := by rw [HRes.out, if_neg h40, if_neg h91, if_pos h46]
    have HR2 := Lib.hid hr2
    clear hr2 h91 h40 h46
    go_enter Tryz.func158, Tryz.ntmps158
    go_wp2_with fail
    refine HPeek.out.mono ?_
    rintro e w1 ⟨rfl, hb⟩
    have HW1 := Lib.hid (HW.out.below hb)
    have HS1 := Lib.hid hb.size
    clear hb
    go_wp2_with fail
    refine (HW1.out.skip HP.out HCm.out).mono ?_
    rintro e w2 ⟨rfl, hW2, hA2⟩
    have HW2 := Lib.hid hW2
    have HS2 := Lib.hid (Nat.le_trans HS1.out hA2.size)
    clear hA2
    obtain ⟨-, -, -, c3⟩ := HW2.out.rd.cells
    rw [hszr] at c3
    have f3 : w2.frozen? ⟨rb, 3, none⟩ = false := free_blk (i := 3) HW2.out.rd
    have HW3 := Lib.hid (rx_size HW2.out).1
    have HS3 : Hid (w.heap.size ≤ (w2.setCell ⟨rb, 3, none⟩ (.int .i64 (wrap64 (r.size + 1)))).heap.size) := Lib.hid (Nat.le_trans HS2.out (rx_size HW2.out).2.size)
    clear hW2
    go_wp2_with fail
    have hfin : RxPost w rb s (PartV w hh) res (.returned (.pointer (some ⟨(w2.setCell ⟨rb, 3, none⟩ (.int .i64 (wrap64 (r.size + 1)))).heap.size, 0, none⟩))) ((w2.setCell ⟨rb, 3, none⟩ (.int .i64 (wrap64 (r.size + 1)))).alloc (.cells #[.int .i64 0, .slice none 0 0, .bool true, .bool false, .slice none 0 0, .int .i32 0] 210)) := by
     rw [HR2.out]
     exact ⟨_, rfl, ⟨_, rfl, (part_leaf (Slc.nil _ _ _ _) HS3.out).le H1h.out⟩, HW3.out.below (balloc (Below.refl _ _) _)⟩
    have HFin := Lib.hid hfin
    clear hfin
    go_ret
    first | exact HFin.out | (simp at HFin; exact HFin.out)
   ·have e46 : (c == 46) = false := by simpa using h46
    by_cases h92 : c = 92
    ·have e92 : (c == 92) = true := by simpa using h92
     have hr2 : res = (escapeF s (skipF c r)).on fun x r => .ok (.mk 0 x.1 false x.2 [] 0) (moreSz r) := by rw [HRes.out, if_neg h40, if_neg h91, if_neg h46, if_pos h92]
     have HR2 := Lib.hid hr2
     clear hr2 h91 h40 h46 h92
     go_enter Tryz.func158, Tryz.ntmps158
     go_wp2_with fail
     refine HPeek.out.mono ?_
     rintro e w1 ⟨rfl, hb⟩
     have HW1 := Lib.hid (HW.out.below hb)
     have HS1 := Lib.hid hb.size
     clear hb
     go_wp2_with fail
     refine (HW1.out.skip HP.out HCm.out).mono ?_
     rintro e w2 ⟨rfl, hW2, hA2⟩
     have HW2 := Lib.hid hW2
     have HS2 := Lib.hid (Nat.le_trans HS1.out hA2.size)
     clear hA2
     clear hW2
     go_wp2_with fail
     refine (rex_escape HW2.out.re).mono ?_
     rintro e w3 hpost
     cases he : escapeF s (skipF c r) with
     | bad a n =>
      rw [he] at hpost
      obtain ⟨rfl, hA⟩ := hpost
      have HFin : Hid (RxPost w rb s (PartV w hh) res (BadE a n) w3) := Lib.hid (by rw [HR2.out, he]; exact ⟨rfl, HW2.out.apart.trans hA (fun _ _ h => h)⟩)
      clear he hA
      exact ⟨rfl, HFin.out⟩
     | ok x r3 =>
      rw [he] at hpost
      obtain ⟨v, rfl, ⟨sv, rfl, hO⟩, hW3⟩ := hpost
      have HR3 : Hid (res = .ok (.mk 0 x.1 false x.2 [] 0) (moreSz r3)) := Lib.hid (by rw [HR2.out, he]; rfl)
      have HW3 := Lib.hid (hW3.again HW2.out.apart)
      have HS3 := Lib.hid (Nat.le_trans HS2.out hW3.apart.size)
      have HO := Lib.hid (own_shift hO HS2.out)
      obtain ⟨xl, xb⟩ := x
      simp only at HO HR3
      obtain ⟨Am, cm, rfl⟩ := own_slice HO.out
      clear he hO hW3
      obtain ⟨-, -, -, c3⟩ := HW3.out.rd.cells
      have f3 : w3.frozen? ⟨rb, 3, none⟩ = false := free_blk (i := 3) HW3.out.rd
      have HW4 := Lib.hid (rx_size HW3.out).1
      have HS4 : Hid (w.heap.size ≤ (w3.setCell ⟨rb, 3, none⟩ (.int .i64 (wrap64 (r3.size + 1)))).heap.size) := Lib.hid (Nat.le_trans HS3.out (rx_size HW3.out).2.size)
      have hO4 : OwnS (w3.setCell ⟨rb, 3, none⟩ (.int .i64 (wrap64 (r3.size + 1)))) w.heap.size (.slice Am xl.length cm) xl := ownsRow_move HO.out fun k hk => Below.heap_setCell _ _ _ _ (by have h7 := (ownsRow_blk HO.out k hk).1; have h8 := HW.out.rd.lt; show k ≠ rb; omega)
      have hSl := own_slc (enc := Sp.enc) (fun _ => rfl) rfl hO4
      have hfin : RxPost w rb s (PartV w hh) res (.returned (.pointer (some ⟨(w3.setCell ⟨rb, 3, none⟩ (.int .i64 (wrap64 (r3.size + 1)))).heap.size, 0, none⟩))) ((w3.setCell ⟨rb, 3, none⟩ (.int .i64 (wrap64 (r3.size + 1)))).alloc (.cells #[.int .i64 0, .slice Am xl.length cm, .bool false, .bool xb, .slice none 0 0, .int .i32 0] 210)) := by
       rw [HR3.out]
       exact ⟨_, rfl, ⟨_, rfl, (part_leaf hSl HS4.out).le H1h.out⟩, HW4.out.below (balloc (Below.refl _ _) _)⟩
      have HFin := Lib.hid hfin
      clear hfin hSl hO4
      go_wp2_with fail
      go_ret
      first | exact HFin.out | (simp at HFin; exact HFin.out)
    ·have e92 : (c == 92) = false := by simpa using h92
     have HSp := Lib.hid fun (W : World) => rex_special c W
     cases hsp : specialF c with
     | true =>
      have hr2 : res = .bad r.at_ 8 := by rw [HRes.out, if_neg h40, if_neg h91, if_neg h46, if_neg h92, if_pos hsp]
      have HR2 := Lib.hid hr2
      rw [hsp] at HSp
      clear hr2 h91 h40 h46 h92 hsp
      go_enter Tryz.func158, Tryz.ntmps158
      go_wp2_with fail
      refine HPeek.out.mono ?_
      rintro e w1 ⟨rfl, hb⟩
      have HW1 := Lib.hid (HW.out.below hb)
      have HS1 := Lib.hid hb.size
      clear hb
      go_wp2_with fail
      refine (HSp.out _).mono ?_
      rintro e w2 ⟨rfl, hb2⟩
      have HW2 := Lib.hid (HW1.out.below hb2)
      clear hb2
      go_wp2_with fail
      refine (HW2.out.bad 8).mono ?_
      rintro e w3 ⟨rfl, rfl⟩
      refine ⟨rfl, ?_⟩
      rw [HR2.out]
      exact ⟨rfl, HW2.out.apart⟩
     | false =>
      have hr2 : res = .ok (.mk 0 [⟨c, c⟩] false true [] 0) (moreSz (skipF c r)) := by rw [HRes.out, if_neg h40, if_neg h91, if_neg h46, if_neg h92, if_neg (by rw [hsp]; decide)]
      have HR2 := Lib.hid hr2
      rw [hsp] at HSp
      clear hr2 h91 h40 h46 h92 hsp
      go_enter Tryz.func158, Tryz.ntmps158
      go_wp2_with fail
      refine HPeek.out.mono ?_
      rintro e w1 ⟨rfl, hb⟩
      have HW1 := Lib.hid (HW.out.below hb)
      have HS1 := Lib.hid hb.size
      clear hb
      go_wp2_with fail
      refine (HSp.out _).mono ?_
      rintro e w9 ⟨rfl, hb2⟩
      have HW9 := Lib.hid (HW1.out.below hb2)
      have HS9 := Lib.hid (Nat.le_trans HS1.out hb2.size)
      clear hb2
      go_wp2_with fail
      refine (HW9.out.skip HP.out HCm.out).mono ?_
      rintro e w2 ⟨rfl, hW2, hA2⟩
      have HW2 := Lib.hid hW2
      have HS2 := Lib.hid (Nat.le_trans HS9.out hA2.size)
      clear hA2
      obtain ⟨-, -, -, c3⟩ := HW2.out.rd.cells
      rw [hszr] at c3
      have f3 : w2.frozen? ⟨rb, 3, none⟩ = false := free_blk (i := 3) HW2.out.rd
      have HW3 := Lib.hid (rx_size HW2.out).1
      have HS3 : Hid (w.heap.size ≤ (w2.setCell ⟨rb, 3, none⟩ (.int .i64 (wrap64 (r.size + 1)))).heap.size) := Lib.hid (Nat.le_trans HS2.out (rx_size HW2.out).2.size)
      clear hW2
      go_wp2_with fail
      have hfin : RxPost w rb s (PartV w hh) res (.returned (.pointer (some ⟨((w2.setCell ⟨rb, 3, none⟩ (.int .i64 (wrap64 (r.size + 1)))).alloc (.cells #[.int .i32 c, .int .i32 c] 221)).heap.size, 0, none⟩))) (((w2.setCell ⟨rb, 3, none⟩ (.int .i64 (wrap64 (r.size + 1)))).alloc (.cells #[.int .i32 c, .int .i32 c] 221)).alloc (.cells #[.int .i64 0, .slice (some ⟨(w2.setCell ⟨rb, 3, none⟩ (.int .i64 (wrap64 (r.size + 1)))).heap.size, 0, none⟩) 1 1, .bool false, .bool true, .slice none 0 0, .int .i32 0] 210)) := by
       have hO : OwnS ((w2.setCell ⟨rb, 3, none⟩ (.int .i64 (wrap64 (r.size + 1)))).alloc (.cells #[.int .i32 c, .int .i32 c] 221)) w.heap.size (.slice (some ⟨(w2.setCell ⟨rb, 3, none⟩ (.int .i64 (wrap64 (r.size + 1)))).heap.size, 0, none⟩) 1 1) [⟨c, c⟩] := own_shift (own_new (n := 1) (sz := 2) rfl (by decide)) HS3.out
       have hSl := own_slc (enc := Sp.enc) (fun _ => rfl) rfl hO
       rw [HR2.out]
       exact ⟨_, rfl, ⟨_, rfl, (part_leaf hSl (Nat.le_trans HS3.out (balloc (Below.refl _ _) _).size)).le H1h.out⟩, (HW3.out.below (balloc (Below.refl _ _) _)).below (balloc (Below.refl _ _) _)⟩
      have HFin := Lib.hid hfin
      clear hfin
      go_ret
      first | exact HFin.out | (simp at HFin; exact HFin.out)
end Go.Proofs.YtlhmdgaohonpbaaGreatDoor

namespace Go.Proofs.YtlhmdgaohonpbaaGreatDoor
open Go.RowKit Go.Proofs.YtlhmdgaohonpbaaGreatDoor.MapRaw Go.ChangeMaps
theorem info_pp : (Tryz.prog.info? 195).map (fun i => (i.zero, i.size, i.bytes)) = some (some (.pointer none), 1, 8) := by kernel_rfl
theorem pp_len (k : Nat) : (encP k).length = 1 := rfl
theorem part_again {W : World} {D : Nat → Prop} {g ka : Nat} {a : Part} {sg : Int} (h : PartAt W D g ka a) (h1 : D W.heap.size) (h2 : D (W.heap.size + 1)) :
  PartAt ((W.alloc (.cells #[.pointer (some ⟨ka, 0, none⟩)] 195)).alloc (.cells #[.int .i64 3, .slice none 0 0, .bool false, .bool false, .slice (some ⟨W.heap.size, 0, none⟩) 1 1, .int .i32 sg] 210)) D (g + 1) (W.heap.size + 1) (.mk 3 [] false false [a] sg) := by
 have hb : Below W.heap.size W ((W.alloc (.cells #[.pointer (some ⟨ka, 0, none⟩)] 195)).alloc (.cells #[.int .i64 3, .slice none 0 0, .bool false, .bool false, .slice (some ⟨W.heap.size, 0, none⟩) 1 1, .int .i32 sg] 210)) := balloc (balloc (Below.refl _ _) _) _
 have h3 : (W.alloc (.cells #[.pointer (some ⟨ka, 0, none⟩)] 195)).ownsRow W.heap.size 195 1 (.slice (some ⟨W.heap.size, 0, none⟩) 1 1) [ka].length ([ka].flatMap encP) := own_new (n := 1) (sz := 1) (cs := #[.pointer (some ⟨ka, 0, none⟩)]) rfl (by decide)
 have h4 := Slc.mono (D' := D) (own_slc (enc := encP) pp_len rfl h3) (fun k hk hle => by
  have : k = W.heap.size := by simp at hk; omega
  rw [this]; exact h1)
 have hs : (W.alloc (.cells #[.pointer (some ⟨ka, 0, none⟩)] 195)).heap.size = W.heap.size + 1 := by simp
 refine ⟨h2, .inr (.inr (.inr (by simp))), _, _, [ka], ?_, Slc.nil _ _ _ _, h4.below (balloc (Below.refl _ _) _), rfl, fun i k hi p hp => ?_⟩
 ·rw [← hs]; exact blk_new _ _
 ·have e : i = 0 := by cases i with | zero => rfl | succ i => simp at hi
  subst e
  simp at hi hp
  subst hi; subst hp
  exact PartAt.move hb.size (fun j hj _ => hb.block j hj) (fun _ _ hd => hd) _ _ _ h
structure BrAt (w : World) (rb : Nat) (s : ByteArray) (pb : Nat) (kind : Int) (g : Nat) (kv : Value) (ks : List Nat) (acc : List Part) (r : Rs) (W : World) : Prop where
 rx : RxW w rb s r W
 lt : rb < w.heap.size
 ge : w.heap.size ≤ pb
 blk : W.heap[pb]? = some (.cells #[.int .i64 kind, .slice none 0 0, .bool false, .bool false, kv, .int .i32 0] 210 (0, 0))
 own : W.ownsRow w.heap.size 195 1 kv acc.length (ks.flatMap encP)
 ne : kv.ownBlock ≠ some pb
 len : ks.length = acc.length
 kids : ∀ (i k : Nat), ks[i]? = some k → ∀ p, acc[i]? = some p → PartAt W (fun j => w.heap.size ≤ j ∧ j ≠ pb ∧ kv.ownBlock ≠ some j) g k p
theorem BrAt.size {w W : World} {rb pb g : Nat} {s : ByteArray} {kind : Int} {kv : Value} {ks : List Nat} {acc : List Part} {r : Rs} (h : BrAt w rb s pb kind g kv ks acc r W) : pb < W.heap.size := (Array.getElem?_eq_some_iff.1 h.blk).1
theorem BrAt.turn {w W W' : World} {rb pb g : Nat} {s : ByteArray} {kind : Int} {kv : Value} {ks : List Nat} {acc : List Part} {r r' : Rs} (h : BrAt w rb s pb kind g kv ks acc r W) (hr : RdAt W' rb s r') (hA : Apart (fun k => k = rb) W W') (hok : RsOk s r') : BrAt w rb s pb kind g kv ks acc r' W' := by
 have hlt := h.lt
 have hge := h.ge
 have hsz := h.size
 refine ⟨h.rx.turn hr hA hok, h.lt, h.ge, (hA.block _ hsz (by omega)).trans h.blk, ownsRow_move h.own fun k hk => ?_, h.ne, h.len, fun i k hi p hp => PartAt.move hA.size (fun j hj hD => hA.block j hj (by omega)) (fun _ _ hd => hd) _ _ _ (h.kids i k hi p hp)⟩
 have := ownsRow_blk h.own k hk
 exact hA.block k this.2 (by omega)
theorem BrAt.below {w W W' : World} {rb pb g : Nat} {s : ByteArray} {kind : Int} {kv : Value} {ks : List Nat} {acc : List Part} {r : Rs} (h : BrAt w rb s pb kind g kv ks acc r W) (hb : Below W.heap.size W W') : BrAt w rb s pb kind g kv ks acc r W' := h.turn (h.rx.rd.below hb) (below_apart hb _) h.rx.ok
theorem br_push {w W w1 : World} {rb pb g ka : Nat} {s : ByteArray} {kind : Int} {kv v1 : Value} {ks : List Nat} {acc : List Part} {r : Rs} {a : Part} {lo : Nat} (h : BrAt w rb s pb kind g kv ks acc r W) (ho : w1.ownsRow w.heap.size 195 1 v1 (acc.length + 1) (ks.flatMap encP ++ encP ka)) (hb : Below w.heap.size W w1) (hg : W.grownBy w1 kv.ownBlock) (hat : v1.ownBlock = kv.ownBlock ∨ v1.ownBlock = some W.heap.size)
  (ha : PartAt W (fun k => lo ≤ k) g ka a) (hlo : w.heap.size ≤ lo) (hpb : pb < lo) (hkv : ∀ k, kv.ownBlock = some k → k < lo) : BrAt w rb s pb kind g v1 (ks ++ [ka]) (acc ++ [a]) r (w1.setCell ⟨pb, 4, none⟩ v1) := by
 have hlt := h.lt
 have hge := h.ge
 have hsz := h.size
 have hbk : ∀ j, j < W.heap.size → kv.ownBlock ≠ some j → j ≠ pb → (w1.setCell ⟨pb, 4, none⟩ v1).heap[j]? = W.heap[j]? := fun j hj hn hp => (Below.heap_setCell _ _ _ _ hp).trans (hg.block j hj (fun e => hn e.symm))
 have hbl : ∀ j, j < w.heap.size → (w1.setCell ⟨pb, 4, none⟩ v1).heap[j]? = W.heap[j]? := fun j hj => (Below.heap_setCell _ _ _ _ (show j ≠ pb by omega)).trans (hb.block j hj)
 have hrd : RdAt (w1.setCell ⟨pb, 4, none⟩ v1) rb s r := (hbl rb hlt).trans h.rx.rd
 have hA : Apart (fun k => w.heap.size ≤ k) W (w1.setCell ⟨pb, 4, none⟩ v1) := Apart.setC (P := fun k => w.heap.size ≤ k) ⟨hb.os, hb.tape, hb.output, hb.size, fun k _ hk => hb.block k (by omega)⟩ ⟨pb, 4, none⟩ (.inl hge) v1
 have hne1 : v1.ownBlock ≠ some pb := by
  rcases hat with e | e
  ·rw [e]; exact h.ne
  ·rw [e]; intro e2; injection e2 with e2; omega
 have hnb : ∀ j, j < W.heap.size → kv.ownBlock ≠ some j → v1.ownBlock ≠ some j := fun j hj hn => by
  rcases hat with e | e
  ·rw [e]; exact hn
  ·rw [e]; intro e2; injection e2 with e2; omega
 refine ⟨⟨hrd, h.rx.tabs.keep fun k hk => hbl k (by have := h.rx.b2; omega), h.rx.apart.trans hA (fun i hi hk => by omega), h.rx.b2, h.rx.ok, h.rx.sz⟩, hlt, hge, setCell_blk (i := 4) v1 ((hg.block pb hsz (fun e => h.ne e.symm)).trans h.blk), ?_, hne1, by simp [h.len], fun i k hi p hp => ?_⟩
 ·have := ownsRow_move (w' := w1.setCell ⟨pb, 4, none⟩ v1) ho (fun k hk => Below.heap_setCell _ _ _ _ (fun (e : k = pb) => hne1 (by rw [hk, e])))
  rw [List.length_append, List.flatMap_append]
  simpa using this
 ·by_cases hlt2 : i < ks.length
  ·rw [List.getElem?_append_left hlt2] at hi
   rw [List.getElem?_append_left (by rw [← h.len]; exact hlt2)] at hp
   exact PartAt.move (Nat.le_trans hb.size (by simp [World.setCell])) (fun j hj hD => hbk j hj hD.2.2 hD.2.1) (fun j hj hD => ⟨hD.1, hD.2.1, hnb j hj hD.2.2⟩) _ _ _ (h.kids i k hi p hp)
  ·have hie : i = ks.length := by
    have := (List.getElem?_eq_some_iff.1 hi).1
    simp at this; omega
   subst hie
   have e1 : k = ka := by simpa using hi.symm
   have e2 : p = a := by rw [h.len] at hp; simpa using hp.symm
   subst e1; subst e2
   have hn : ∀ j, lo ≤ j → kv.ownBlock ≠ some j := fun j hj e => by have := hkv j e; omega
   exact PartAt.move (Nat.le_trans hb.size (by simp [World.setCell])) (fun j hj hD => hbk j hj (hn j hD) (by omega)) (fun j hj hD => ⟨by omega, by omega, hnb j hj (hn j hD)⟩) _ _ _ ha
theorem br_end {w W : World} {rb pb g : Nat} {s : ByteArray} {kind : Int} {kv : Value} {ks : List Nat} {acc : List Part} {r : Rs} (h : BrAt w rb s pb kind g kv ks acc r W) (hk : kind = 1 ∨ kind = 2) : PartAt W (fun k => w.heap.size ≤ k) (g + 1) pb (.mk kind [] false false acc 0) :=
 ⟨h.ge, .inr (hk.imp id .inl), _, _, ks, h.blk, Slc.nil _ _ _ _, own_slc (enc := encP) pp_len h.len.symm h.own, h.len, fun i k hi p hp => PartAt.move (Nat.le_refl _) (fun _ _ _ => rfl) (fun _ _ hd => hd.1) _ _ _ (h.kids i k hi p hp)⟩
theorem part_lt {W : World} {lo : Nat} : ∀ {h b : Nat} {p : Part}, PartAt W (fun k => lo ≤ k) h b p → b < W.heap.size ∧ lo ≤ b
 | 0, _, _, h => h.elim
 | _ + 1, _, .mk _ _ _ _ _ _, ⟨h0, _, _, _, _, h1, _⟩ => ⟨(Array.getElem?_eq_some_iff.1 h1).1, h0⟩
theorem BrAt.ownlt {w W : World} {rb pb g : Nat} {s : ByteArray} {kind : Int} {kv : Value} {ks : List Nat} {acc : List Part} {r : Rs} (h : BrAt w rb s pb kind g kv ks acc r W) : ∀ k, kv.ownBlock = some k → k < W.heap.size := fun k hk => (ownsRow_blk h.own k hk).2
set_option maxRecDepth 100000 in
set_option maxHeartbeats 4000000 in
theorem rex_branch {w : World} {rb : Nat} {s : ByteArray} {r : Rs} {pat : Rs → Out Part} {hh : Nat} {dl : Int} (hP : PatC s pat hh dl) (hF : PatFwd s pat) (h1h : 1 ≤ hh) (h : RxW w rb s r w) (hd : dl ≤ r.depth + 1) :
  Calls Tryz.prog 147 #[.pointer (some ⟨rb, 0, none⟩)] w (RxPost w rb s (PartV w (hh + 2)) (branchF pat s r)) := by
 have hB0 : BrAt w rb s w.heap.size 1 (hh + 1) (.slice none 0 0) [] [] r (w.alloc (.cells #[.int .i64 1, .slice none 0 0, .bool false, .bool false, .slice none 0 0, .int .i32 0] 210)) :=
  ⟨h.below (balloc (Below.refl _ _) _), h.rd.lt, Nat.le_refl _, blk_new _ _, ⟨rfl, .inl ⟨rfl, rfl⟩⟩, (fun e => by cases e), rfl, fun i k hi => by simp at hi⟩
 have hpeek := hB0.rx.peek
 have hef : branchF pat s r = (peekF s r).on fun c r => (branchLoop pat s (s.size + 1) c [] r).on fun l r => .ok (.mk 1 [] false false l 0) r := rfl
 have HB0 := Lib.hid hB0
 have hlo := h.ok.lo
 have HD := Lib.hid hd
 cases hp : peekF s r with
 | bad a n =>
  rw [hp] at hpeek hef
  simp only [Out.on] at hef
  rw [hef]
  have HPeek := Lib.hid hpeek
  clear hpeek hp hef h
  go_enter Tryz.func147, Tryz.ntmps147
  go_wp2_with fail
  refine HPeek.out.mono ?_
  rintro e w1 ⟨rfl, hb⟩
  exact ⟨rfl, rfl, HB0.out.rx.apart.then hb⟩
 | ok c0 r1 =>
  obtain ⟨rfl, hc3⟩ := peek_ok h.ok.lo hp
  obtain ⟨tot, htt⟩ : ∃ tot, branchLoop pat s (s.size + 1) c0 [] r1 = tot := ⟨_, rfl⟩
  have hres : branchF pat s r1 = tot.on fun l r => .ok (.mk 1 [] false false l 0) r := by rw [hef, hp, ← htt]; rfl
  rw [hp] at hpeek
  have HPeek := Lib.hid hpeek
  have HP0 := Lib.hid hp
  have HRes := Lib.hid hres
  have HTt := Lib.hid htt
  generalize branchF pat s r1 = res at *
  have HLo := Lib.hid hlo
  clear hef hpeek hp h hc3 hB0 hlo hres htt hd
  obtain ⟨pb, hpb⟩ : ∃ pb, pb = w.heap.size := ⟨_, rfl⟩
  rw [← hpb] at HB0
  go_enter Tryz.func147, Tryz.ntmps147
  go_wp2_with fail
  generalize w.alloc (.cells #[.int .i64 1, .slice none 0 0, .bool false, .bool false, .slice none 0 0, .int .i32 0] 210) = w0 at *
  refine HPeek.out.mono ?_
  rintro e w1 ⟨rfl, hb⟩
  have HB1 := Lib.hid (HB0.out.below hb)
  clear hb
  rw [← hpb]
  clear hpb
  go_wp2_with fail
  go_loopw [4] (fun cv wr => ∃ (n : Nat) (c : Int) (kv : Value) (ks : List Nat) (acc : List Part) (r' : Rs), cv = .int .i32 c ∧ 1 ≤ n ∧ (s.size : Int) + 1 ≤ r'.at_ + n ∧ peekF s r' = .ok c r' ∧ branchLoop pat s n c acc r' = tot ∧ (acc.length : Int) ≤ r'.at_ ∧ r'.depth = r1.depth ∧ BrAt w rb s pb 1 (hh + 1) kv ks acc r' wr) (fun _ wr => RxM rb wr)
  case atStart => exact ⟨s.size + 1, c0, _, [], [], r1, rfl, by omega, by have := HLo.out; omega, HP0.out, HTt.out, by have := HLo.out; simp; omega, rfl, HB1.out⟩
  case round =>
   obtain ⟨n, c, kv, ks, acc, r', rfl, hn, hsz, hpk, htot, hacc, hdp, hB⟩ := hrel
   have HBr := Lib.hid hB
   cases n with
   | zero => omega
   | succ n =>
    by_cases hc0 : 0 ≤ c
    ·have e0 : decide (c ≥ 0) = true := decide_eq_true hc0
     have e0' : decide (0 ≤ c) = true := decide_eq_true hc0
     by_cases h124 : c = 124
     ·have e1 : (c != 124) = false := by simpa using h124
      have htot2 : tot = .ok acc r' := by rw [← htot]; unfold branchLoop; rw [if_neg (by omega)]
      have HFin : Hid (RxPost w rb s (PartV w (hh + 2)) res (.returned (.pointer (some ⟨pb, 0, none⟩))) wr) := Lib.hid (by rw [HRes.out, htot2]; exact ⟨_, rfl, ⟨pb, rfl, br_end HBr.out (.inl rfl)⟩, HBr.out.rx⟩)
      clear htot2 htot hacc hB hn hsz hpk hdp
      go_wp2_with fail
      go_ret
      exact HFin.out
     ·have e1 : (c != 124) = true := by simpa using h124
      by_cases h41 : c = 41
      ·have e2 : (c != 41) = false := by simpa using h41
       have htot2 : tot = .ok acc r' := by rw [← htot]; unfold branchLoop; rw [if_neg (by omega)]
       have HFin : Hid (RxPost w rb s (PartV w (hh + 2)) res (.returned (.pointer (some ⟨pb, 0, none⟩))) wr) := Lib.hid (by rw [HRes.out, htot2]; exact ⟨_, rfl, ⟨pb, rfl, br_end HBr.out (.inl rfl)⟩, HBr.out.rx⟩)
       clear htot2 htot hacc hB hn hsz hpk hdp
       go_wp2_with fail
       go_ret
       exact HFin.out
      ·have e2 : (c != 41) = true := by simpa using h41
       have htot2 : ((atomF pat s r').on fun a r => (peekF s r).on fun g r => (peekF s (if signB g = true then skipF g r else r)).on fun c r => branchLoop pat s n c (acc ++ [if signB g = true then .mk 3 [] false false [a] g else a]) r) = tot := by rw [← htot]; conv => rhs; unfold branchLoop; rw [if_pos ⟨hc0, h124, h41⟩]
       have HT := Lib.hid htot2
       have HN : Hid ((s.size : Int) + 1 ≤ r'.at_ + (n + 1)) := Lib.hid (by omega)
       have HAcc := Lib.hid hacc
       have HLt := Lib.hid (peek_lt hB.rx.ok hpk (by omega))
       have hatom := rex_atom hP hF h1h hB.rx.re (by rw [hdp]; exact HD.out) hpk (by omega)
       have HAt := Lib.hid hatom
       have hafw := fun (a : Part) (r2 : Rs) (he : atomF pat s r' = .ok a r2) => atom_fwd hF hB.rx.ok hpk (by omega) he
       have HAfw := Lib.hid hafw
       have HDp := Lib.hid hdp
       clear htot2 htot hacc hB hn hsz hpk hdp hatom hafw hc0 h124 h41
       go_wp2_with fail
       refine HAt.out.mono ?_
       rintro e w2 hpost
       cases ha : atomF pat s r' with
       | bad a9 e9 =>
        rw [ha] at hpost
        obtain ⟨rfl, hA⟩ := hpost
        have HFin : Hid (RxPost w rb s (PartV w (hh + 2)) res (BadE a9 e9) w2) := Lib.hid (by rw [HRes.out, ← HT.out, ha]; exact ⟨rfl, HBr.out.rx.apart.trans hA (fun _ _ h => h)⟩)
        clear ha hA
        exact ⟨rfl, HFin.out⟩
       | ok a r2 =>
        have hfw := HAfw.out a r2 ha
        have hT2 := HT.out
        rw [ha] at hT2
        have hT2 : ((peekF s r2).on fun g r => (peekF s (if signB g = true then skipF g r else r)).on fun c r => branchLoop pat s n c (acc ++ [if signB g = true then .mk 3 [] false false [a] g else a]) r) = tot := hT2
        have HT2 := Lib.hid hT2
        rw [ha] at hpost
        obtain ⟨v, rfl, ⟨ka, rfl, hPa⟩, hW2⟩ := hpost
        have HFa := Lib.hid hfw
        have HKa0 := Lib.hid (PartAt.up _ _ _ hPa)
        have HPa := Lib.hid hPa
        have HB2 := Lib.hid (HBr.out.turn hW2.rd hW2.apart hW2.ok)
        have hpk2 := HB2.out.rx.peek
        clear ha hPa hW2 hfw hT2
        cases hp2 : peekF s r2 with
        | bad a9 e9 =>
         rw [hp2] at hpk2
         have HPk2 := Lib.hid hpk2
         have HFin : Hid (∀ W, Apart (fun k => k = rb) w W → RxPost w rb s (PartV w (hh + 2)) res (BadE a9 e9) W) := Lib.hid (fun W hA => by rw [HRes.out, ← HT2.out, hp2]; exact ⟨rfl, hA⟩)
         clear hpk2 hp2
         go_wp2_with fail
         refine HPk2.out.mono ?_
         rintro e w4 ⟨rfl, hb4⟩
         exact ⟨rfl, HFin.out _ (HB2.out.rx.apart.then hb4)⟩
        | ok g r9 =>
         obtain ⟨rfl, -⟩ := peek_ok HB2.out.rx.ok.lo hp2
         rw [hp2] at hpk2
         have HPk2 := Lib.hid hpk2
         have HP2 := Lib.hid hp2
         have hT3 := HT2.out
         rw [hp2] at hT3
         have hT3 : ((peekF s (if signB g = true then skipF g r9 else r9)).on fun c r => branchLoop pat s n c (acc ++ [if signB g = true then .mk 3 [] false false [a] g else a]) r) = tot := hT3
         clear hpk2 hp2
         go_wp2_with fail
         refine HPk2.out.mono ?_
         rintro e w4 ⟨rfl, hb4⟩
         have HB4 := Lib.hid (HB2.out.below hb4)
         have HPa4 : Hid (PartAt w4 (fun k => wr.heap.size ≤ k) hh ka a) := Lib.hid (PartAt.move hb4.size (fun j hj _ => hb4.block j hj) (fun _ _ hd => hd) _ _ _ HPa.out)
         have HS4 := Lib.hid (Nat.le_trans HB2.out.rx.apart.size hb4.size)
         clear hb4
         cases hsg : signB g with
         | true =>
          rw [hsg] at hT3
          simp only [if_pos] at hT3
          have HT3 := Lib.hid hT3
          have hgm : g ≠ -1 := fun e => by rw [e] at hsg; cases hsg
          have HGm := Lib.hid hgm
          have HPf := Lib.hid (peek_fwd HB4.out.rx.ok HP2.out hgm)
          have hg3 : g = 42 ∨ g = 43 ∨ g = 63 := by unfold signB at hsg; simp at hsg; omega
          clear hT3 hsg hgm
          rcases hg3 with rfl | rfl | rfl
          ·go_wp2_with fail
           refine (HB4.out.rx.skip HP2.out HGm.out).mono ?_
           rintro e w7 ⟨rfl, hW7, hA7⟩
           have HB7 := Lib.hid (HB4.out.turn hW7.rd hA7 hW7.ok)
           have HP7 : Hid (PartAt w7 (fun k => wr.heap.size ≤ k) hh ka a) := Lib.hid (PartAt.move hA7.size (fun j hj hD => hA7.block j hj (by have := HBr.out.rx.rd.lt; omega)) (fun _ _ hd => hd) _ _ _ HPa4.out)
           have HS7 : Hid (wr.heap.size ≤ w7.heap.size) := Lib.hid (by
            have h1 := HP7.out
            have : ka < w7.heap.size ∧ wr.heap.size ≤ ka := part_lt h1
            omega)
           clear hW7 hA7
           have HFw : Hid (r'.at_ + 1 ≤ (skipF 42 r9).at_) := Lib.hid (by have := HPf.out.fwd; have := HFa.out.fwd; omega)
           have HKid := Lib.hid (part_again (sg := 42) HP7.out HS7.out (Nat.le_succ_of_le HS7.out))
           have HBk := Lib.hid (HB7.out.below (balloc (balloc (Below.refl _ _) (.cells #[.pointer (some ⟨ka, 0, none⟩)] 195)) (.cells #[.int .i64 3, .slice none 0 0, .bool false, .bool false, .slice (some ⟨w7.heap.size, 0, none⟩) 1 1, .int .i32 42] 210)))
           have HLit : Hid ((((w7.alloc (.cells #[.pointer (some ⟨ka, 0, none⟩)] 195)).alloc (.cells #[.int .i64 3, .slice none 0 0, .bool false, .bool false, .slice (some ⟨w7.heap.size, 0, none⟩) 1 1, .int .i32 42] 210)).alloc (.cells #[.pointer (some ⟨(w7.heap.size + 1), 0, none⟩)] 195)).heap[(w7.heap.size + 1 + 1)]? = some (.cells #[.pointer (some ⟨(w7.heap.size + 1), 0, none⟩)] 195 (0, 0))) := Lib.hid (by have h9 := blk_new ((w7.alloc (.cells #[.pointer (some ⟨ka, 0, none⟩)] 195)).alloc (.cells #[.int .i64 3, .slice none 0 0, .bool false, .bool false, .slice (some ⟨w7.heap.size, 0, none⟩) 1 1, .int .i32 42] 210)) (.cells #[.pointer (some ⟨(w7.heap.size + 1), 0, none⟩)] 195); simpa using h9)
           have HBl : Hid (Below ((w7.alloc (.cells #[.pointer (some ⟨ka, 0, none⟩)] 195)).alloc (.cells #[.int .i64 3, .slice none 0 0, .bool false, .bool false, .slice (some ⟨w7.heap.size, 0, none⟩) 1 1, .int .i32 42] 210)).heap.size ((w7.alloc (.cells #[.pointer (some ⟨ka, 0, none⟩)] 195)).alloc (.cells #[.int .i64 3, .slice none 0 0, .bool false, .bool false, .slice (some ⟨w7.heap.size, 0, none⟩) 1 1, .int .i32 42] 210)) (((w7.alloc (.cells #[.pointer (some ⟨ka, 0, none⟩)] 195)).alloc (.cells #[.int .i64 3, .slice none 0 0, .bool false, .bool false, .slice (some ⟨w7.heap.size, 0, none⟩) 1 1, .int .i32 42] 210)).alloc (.cells #[.pointer (some ⟨(w7.heap.size + 1), 0, none⟩)] 195))) := Lib.hid (balloc (Below.refl _ _) _)
           have HBa := Lib.hid (HBk.out.below HBl.out)
           have HKa : Hid (PartAt (((w7.alloc (.cells #[.pointer (some ⟨ka, 0, none⟩)] 195)).alloc (.cells #[.int .i64 3, .slice none 0 0, .bool false, .bool false, .slice (some ⟨w7.heap.size, 0, none⟩) 1 1, .int .i32 42] 210)).alloc (.cells #[.pointer (some ⟨(w7.heap.size + 1), 0, none⟩)] 195)) (fun k => wr.heap.size ≤ k) (hh + 1) (w7.heap.size + 1) (Part.mk 3 [] false false [a] 42)) := Lib.hid (PartAt.move HBl.out.size (fun j hj _ => HBl.out.block j hj) (fun _ _ hd => hd) _ _ _ HKid.out)
           have c4 := blk_cell HBa.out.blk 4
           have c4' := blk_cell HBk.out.blk 4
           simp at c4 c4'
           have hlen : (acc.length + 1) * 8 ≤ 140737488355328 := by have := HAcc.out; have := HBr.out.rx.ok.hi; have := HBr.out.rx.sz; omega
           have hsz : w.heap.size ≤ (((w7.alloc (.cells #[.pointer (some ⟨ka, 0, none⟩)] 195)).alloc (.cells #[.int .i64 3, .slice none 0 0, .bool false, .bool false, .slice (some ⟨w7.heap.size, 0, none⟩) 1 1, .int .i32 42] 210)).alloc (.cells #[.pointer (some ⟨(w7.heap.size + 1), 0, none⟩)] 195)).heap.size := HBa.out.rx.apart.size
           go_wp2_with (at_builtin; refine wpList_app2 (w0 := ((w7.alloc (.cells #[.pointer (some ⟨ka, 0, none⟩)] 195)).alloc (.cells #[.int .i64 3, .slice none 0 0, .bool false, .bool false, .slice (some ⟨w7.heap.size, 0, none⟩) 1 1, .int .i32 42] 210)).alloc (.cells #[.pointer (some ⟨(w7.heap.size + 1), 0, none⟩)] 195)) w.heap.size rfl _ _ 207 195 _ 1 8 1 (encP ((w7.heap.size + 1))) rfl Tryz.underlying207 info_pp rfl (by decide) (by decide) kv (.slice (some ⟨(w7.heap.size + 1 + 1), 0, none⟩) 1 1) acc.length (ks.flatMap encP) ?hs ?hxe ?hx HBa.out.own (Below.refl _ _) hsz hlen ?_)
           try case hs => rfl
           try case hxe => rfl
           case hx => exact src_block (m := 1) (size := 1) (cs := #[.pointer (some ⟨(w7.heap.size + 1), 0, none⟩)]) (t := 195) (fr := (0, 0)) HLit.out rfl (fun u hu => by simp at hu; subst hu; rfl) 1
           intro v5 w5 hO5 hB5 hg5 hat5
           have HB5 := Lib.hid (br_push HBa.out hO5 hB5 hg5 (by simpa using hat5) HKa.out HBr.out.rx.apart.size HBr.out.size HBr.out.ownlt)
           have hb5 := (hg5.block pb HBa.out.size (fun e => HBa.out.ne e.symm)).trans HBa.out.blk
           have q4 := blk_cell hb5 4
           simp at q4
           have f4 : w5.frozen? ⟨pb, 4, none⟩ = false := free_blk (i := 4) hb5
           obtain ⟨A5, c5, rfl⟩ := own_slice hO5
           clear hO5 hB5 hg5 hat5 hb5 c4 c4' hsz
           have hpk5 := HB5.out.rx.peek
           cases hp5 : peekF s (skipF 42 r9) with
           | bad a9 e9 =>
            rw [hp5] at hpk5
            have HPk5 := Lib.hid hpk5
            have HFin : Hid (∀ W, Apart (fun k => k = rb) w W → RxPost w rb s (PartV w (hh + 2)) res (BadE a9 e9) W) := Lib.hid (fun W hA => by rw [HRes.out, ← HT3.out, hp5]; exact ⟨rfl, hA⟩)
            clear hpk5 hp5
            go_wp2_with fail
            refine HPk5.out.mono ?_
            rintro e w6 ⟨rfl, hb6⟩
            exact ⟨rfl, HFin.out _ (HB5.out.rx.apart.then hb6)⟩
           | ok c6 r6 =>
            obtain ⟨e6, -⟩ := peek_ok HB5.out.rx.ok.lo hp5
            rw [e6] at hp5
            have htail : branchLoop pat s n c6 (acc ++ [(Part.mk 3 [] false false [a] 42)]) (skipF 42 r9) = tot := by rw [← HT3.out, hp5]; rfl
            have HTail := Lib.hid htail
            have HP5 := Lib.hid hp5
            rw [hp5] at hpk5
            have HPk5 := Lib.hid hpk5
            have hnn : 1 ≤ n ∧ (s.size : Int) + 1 ≤ (skipF 42 r9).at_ + n ∧ r'.at_ + 1 ≤ (skipF 42 r9).at_ := by have := HN.out; have := HLt.out; have := HFw.out; omega
            have HNn := Lib.hid hnn
            have HDp6 : Hid ((skipF 42 r9).depth = r1.depth) := Lib.hid (HPf.out.depth.trans (HFa.out.depth.trans HDp.out))
            have hacc2 : (((acc ++ [(Part.mk 3 [] false false [a] 42)]).length : Nat) : Int) ≤ (skipF 42 r9).at_ := by rw [List.length_append]; have := HAcc.out; simp only [List.length_cons, List.length_nil]; omega
            have HAcc2 := Lib.hid hacc2
            clear hpk5 hp5 e6 htail hnn hacc2
            go_wp2_with fail
            refine HPk5.out.mono ?_
            rintro e w6 ⟨rfl, hb6⟩
            have HB6 := Lib.hid (HB5.out.below hb6)
            clear hb6
            go_wp2_with fail
            go_roundw
            case rel => exact ⟨n, c6, _, _, _, (skipF 42 r9), rfl, HNn.out.1, HNn.out.2.1, HP5.out, HTail.out, HAcc2.out, HDp6.out, HB6.out⟩
            case measure => exact RxM_lt HBr.out.rx.rd HB6.out.rx.rd HBr.out.rx.ok HB6.out.rx.ok HBr.out.rx.sz HNn.out.2.2
          ·go_wp2_with fail
           refine (HB4.out.rx.skip HP2.out HGm.out).mono ?_
           rintro e w7 ⟨rfl, hW7, hA7⟩
           have HB7 := Lib.hid (HB4.out.turn hW7.rd hA7 hW7.ok)
           have HP7 : Hid (PartAt w7 (fun k => wr.heap.size ≤ k) hh ka a) := Lib.hid (PartAt.move hA7.size (fun j hj hD => hA7.block j hj (by have := HBr.out.rx.rd.lt; omega)) (fun _ _ hd => hd) _ _ _ HPa4.out)
           have HS7 : Hid (wr.heap.size ≤ w7.heap.size) := Lib.hid (by
            have h1 := HP7.out
            have : ka < w7.heap.size ∧ wr.heap.size ≤ ka := part_lt h1
            omega)
           clear hW7 hA7
           have HFw : Hid (r'.at_ + 1 ≤ (skipF 43 r9).at_) := Lib.hid (by have := HPf.out.fwd; have := HFa.out.fwd; omega)
           have HKid := Lib.hid (part_again (sg := 43) HP7.out HS7.out (Nat.le_succ_of_le HS7.out))
           have HBk := Lib.hid (HB7.out.below (balloc (balloc (Below.refl _ _) (.cells #[.pointer (some ⟨ka, 0, none⟩)] 195)) (.cells #[.int .i64 3, .slice none 0 0, .bool false, .bool false, .slice (some ⟨w7.heap.size, 0, none⟩) 1 1, .int .i32 43] 210)))
           have HLit : Hid ((((w7.alloc (.cells #[.pointer (some ⟨ka, 0, none⟩)] 195)).alloc (.cells #[.int .i64 3, .slice none 0 0, .bool false, .bool false, .slice (some ⟨w7.heap.size, 0, none⟩) 1 1, .int .i32 43] 210)).alloc (.cells #[.pointer (some ⟨(w7.heap.size + 1), 0, none⟩)] 195)).heap[(w7.heap.size + 1 + 1)]? = some (.cells #[.pointer (some ⟨(w7.heap.size + 1), 0, none⟩)] 195 (0, 0))) := Lib.hid (by have h9 := blk_new ((w7.alloc (.cells #[.pointer (some ⟨ka, 0, none⟩)] 195)).alloc (.cells #[.int .i64 3, .slice none 0 0, .bool false, .bool false, .slice (some ⟨w7.heap.size, 0, none⟩) 1 1, .int .i32 43] 210)) (.cells #[.pointer (some ⟨(w7.heap.size + 1), 0, none⟩)] 195); simpa using h9)
           have HBl : Hid (Below ((w7.alloc (.cells #[.pointer (some ⟨ka, 0, none⟩)] 195)).alloc (.cells #[.int .i64 3, .slice none 0 0, .bool false, .bool false, .slice (some ⟨w7.heap.size, 0, none⟩) 1 1, .int .i32 43] 210)).heap.size ((w7.alloc (.cells #[.pointer (some ⟨ka, 0, none⟩)] 195)).alloc (.cells #[.int .i64 3, .slice none 0 0, .bool false, .bool false, .slice (some ⟨w7.heap.size, 0, none⟩) 1 1, .int .i32 43] 210)) (((w7.alloc (.cells #[.pointer (some ⟨ka, 0, none⟩)] 195)).alloc (.cells #[.int .i64 3, .slice none 0 0, .bool false, .bool false, .slice (some ⟨w7.heap.size, 0, none⟩) 1 1, .int .i32 43] 210)).alloc (.cells #[.pointer (some ⟨(w7.heap.size + 1), 0, none⟩)] 195))) := Lib.hid (balloc (Below.refl _ _) _)
           have HBa := Lib.hid (HBk.out.below HBl.out)
           have HKa : Hid (PartAt (((w7.alloc (.cells #[.pointer (some ⟨ka, 0, none⟩)] 195)).alloc (.cells #[.int .i64 3, .slice none 0 0, .bool false, .bool false, .slice (some ⟨w7.heap.size, 0, none⟩) 1 1, .int .i32 43] 210)).alloc (.cells #[.pointer (some ⟨(w7.heap.size + 1), 0, none⟩)] 195)) (fun k => wr.heap.size ≤ k) (hh + 1) (w7.heap.size + 1) (Part.mk 3 [] false false [a] 43)) := Lib.hid (PartAt.move HBl.out.size (fun j hj _ => HBl.out.block j hj) (fun _ _ hd => hd) _ _ _ HKid.out)
           have c4 := blk_cell HBa.out.blk 4
           have c4' := blk_cell HBk.out.blk 4
           simp at c4 c4'
           have hlen : (acc.length + 1) * 8 ≤ 140737488355328 := by have := HAcc.out; have := HBr.out.rx.ok.hi; have := HBr.out.rx.sz; omega
           have hsz : w.heap.size ≤ (((w7.alloc (.cells #[.pointer (some ⟨ka, 0, none⟩)] 195)).alloc (.cells #[.int .i64 3, .slice none 0 0, .bool false, .bool false, .slice (some ⟨w7.heap.size, 0, none⟩) 1 1, .int .i32 43] 210)).alloc (.cells #[.pointer (some ⟨(w7.heap.size + 1), 0, none⟩)] 195)).heap.size := HBa.out.rx.apart.size
           go_wp2_with (at_builtin; refine wpList_app2 (w0 := ((w7.alloc (.cells #[.pointer (some ⟨ka, 0, none⟩)] 195)).alloc (.cells #[.int .i64 3, .slice none 0 0, .bool false, .bool false, .slice (some ⟨w7.heap.size, 0, none⟩) 1 1, .int .i32 43] 210)).alloc (.cells #[.pointer (some ⟨(w7.heap.size + 1), 0, none⟩)] 195)) w.heap.size rfl _ _ 207 195 _ 1 8 1 (encP ((w7.heap.size + 1))) rfl Tryz.underlying207 info_pp rfl (by decide) (by decide) kv (.slice (some ⟨(w7.heap.size + 1 + 1), 0, none⟩) 1 1) acc.length (ks.flatMap encP) ?hs ?hxe ?hx HBa.out.own (Below.refl _ _) hsz hlen ?_)
           try case hs => rfl
           try case hxe => rfl
           case hx => exact src_block (m := 1) (size := 1) (cs := #[.pointer (some ⟨(w7.heap.size + 1), 0, none⟩)]) (t := 195) (fr := (0, 0)) HLit.out rfl (fun u hu => by simp at hu; subst hu; rfl) 1
           intro v5 w5 hO5 hB5 hg5 hat5
           have HB5 := Lib.hid (br_push HBa.out hO5 hB5 hg5 (by simpa using hat5) HKa.out HBr.out.rx.apart.size HBr.out.size HBr.out.ownlt)
           have hb5 := (hg5.block pb HBa.out.size (fun e => HBa.out.ne e.symm)).trans HBa.out.blk
           have q4 := blk_cell hb5 4
           simp at q4
           have f4 : w5.frozen? ⟨pb, 4, none⟩ = false := free_blk (i := 4) hb5
           obtain ⟨A5, c5, rfl⟩ := own_slice hO5
           clear hO5 hB5 hg5 hat5 hb5 c4 c4' hsz
           have hpk5 := HB5.out.rx.peek
           cases hp5 : peekF s (skipF 43 r9) with
           | bad a9 e9 =>
            rw [hp5] at hpk5
            have HPk5 := Lib.hid hpk5
            have HFin : Hid (∀ W, Apart (fun k => k = rb) w W → RxPost w rb s (PartV w (hh + 2)) res (BadE a9 e9) W) := Lib.hid (fun W hA => by rw [HRes.out, ← HT3.out, hp5]; exact ⟨rfl, hA⟩)
            clear hpk5 hp5
            go_wp2_with fail
            refine HPk5.out.mono ?_
            rintro e w6 ⟨rfl, hb6⟩
            exact ⟨rfl, HFin.out _ (HB5.out.rx.apart.then hb6)⟩
           | ok c6 r6 =>
            obtain ⟨e6, -⟩ := peek_ok HB5.out.rx.ok.lo hp5
            rw [e6] at hp5
            have htail : branchLoop pat s n c6 (acc ++ [(Part.mk 3 [] false false [a] 43)]) (skipF 43 r9) = tot := by rw [← HT3.out, hp5]; rfl
            have HTail := Lib.hid htail
            have HP5 := Lib.hid hp5
            rw [hp5] at hpk5
            have HPk5 := Lib.hid hpk5
            have hnn : 1 ≤ n ∧ (s.size : Int) + 1 ≤ (skipF 43 r9).at_ + n ∧ r'.at_ + 1 ≤ (skipF 43 r9).at_ := by have := HN.out; have := HLt.out; have := HFw.out; omega
            have HNn := Lib.hid hnn
            have HDp6 : Hid ((skipF 43 r9).depth = r1.depth) := Lib.hid (HPf.out.depth.trans (HFa.out.depth.trans HDp.out))
            have hacc2 : (((acc ++ [(Part.mk 3 [] false false [a] 43)]).length : Nat) : Int) ≤ (skipF 43 r9).at_ := by rw [List.length_append]; have := HAcc.out; simp only [List.length_cons, List.length_nil]; omega
            have HAcc2 := Lib.hid hacc2
            clear hpk5 hp5 e6 htail hnn hacc2
            go_wp2_with fail
            refine HPk5.out.mono ?_
            rintro e w6 ⟨rfl, hb6⟩
            have HB6 := Lib.hid (HB5.out.below hb6)
            clear hb6
            go_wp2_with fail
            go_roundw
            case rel => exact ⟨n, c6, _, _, _, (skipF 43 r9), rfl, HNn.out.1, HNn.out.2.1, HP5.out, HTail.out, HAcc2.out, HDp6.out, HB6.out⟩
            case measure => exact RxM_lt HBr.out.rx.rd HB6.out.rx.rd HBr.out.rx.ok HB6.out.rx.ok HBr.out.rx.sz HNn.out.2.2
          ·go_wp2_with fail
           refine (HB4.out.rx.skip HP2.out HGm.out).mono ?_
           rintro e w7 ⟨rfl, hW7, hA7⟩
           have HB7 := Lib.hid (HB4.out.turn hW7.rd hA7 hW7.ok)
           have HP7 : Hid (PartAt w7 (fun k => wr.heap.size ≤ k) hh ka a) := Lib.hid (PartAt.move hA7.size (fun j hj hD => hA7.block j hj (by have := HBr.out.rx.rd.lt; omega)) (fun _ _ hd => hd) _ _ _ HPa4.out)
           have HS7 : Hid (wr.heap.size ≤ w7.heap.size) := Lib.hid (by
            have h1 := HP7.out
            have : ka < w7.heap.size ∧ wr.heap.size ≤ ka := part_lt h1
            omega)
           clear hW7 hA7
           have HFw : Hid (r'.at_ + 1 ≤ (skipF 63 r9).at_) := Lib.hid (by have := HPf.out.fwd; have := HFa.out.fwd; omega)
           have HKid := Lib.hid (part_again (sg := 63) HP7.out HS7.out (Nat.le_succ_of_le HS7.out))
           have HBk := Lib.hid (HB7.out.below (balloc (balloc (Below.refl _ _) (.cells #[.pointer (some ⟨ka, 0, none⟩)] 195)) (.cells #[.int .i64 3, .slice none 0 0, .bool false, .bool false, .slice (some ⟨w7.heap.size, 0, none⟩) 1 1, .int .i32 63] 210)))
           have HLit : Hid ((((w7.alloc (.cells #[.pointer (some ⟨ka, 0, none⟩)] 195)).alloc (.cells #[.int .i64 3, .slice none 0 0, .bool false, .bool false, .slice (some ⟨w7.heap.size, 0, none⟩) 1 1, .int .i32 63] 210)).alloc (.cells #[.pointer (some ⟨(w7.heap.size + 1), 0, none⟩)] 195)).heap[(w7.heap.size + 1 + 1)]? = some (.cells #[.pointer (some ⟨(w7.heap.size + 1), 0, none⟩)] 195 (0, 0))) := Lib.hid (by have h9 := blk_new ((w7.alloc (.cells #[.pointer (some ⟨ka, 0, none⟩)] 195)).alloc (.cells #[.int .i64 3, .slice none 0 0, .bool false, .bool false, .slice (some ⟨w7.heap.size, 0, none⟩) 1 1, .int .i32 63] 210)) (.cells #[.pointer (some ⟨(w7.heap.size + 1), 0, none⟩)] 195); simpa using h9)
           have HBl : Hid (Below ((w7.alloc (.cells #[.pointer (some ⟨ka, 0, none⟩)] 195)).alloc (.cells #[.int .i64 3, .slice none 0 0, .bool false, .bool false, .slice (some ⟨w7.heap.size, 0, none⟩) 1 1, .int .i32 63] 210)).heap.size ((w7.alloc (.cells #[.pointer (some ⟨ka, 0, none⟩)] 195)).alloc (.cells #[.int .i64 3, .slice none 0 0, .bool false, .bool false, .slice (some ⟨w7.heap.size, 0, none⟩) 1 1, .int .i32 63] 210)) (((w7.alloc (.cells #[.pointer (some ⟨ka, 0, none⟩)] 195)).alloc (.cells #[.int .i64 3, .slice none 0 0, .bool false, .bool false, .slice (some ⟨w7.heap.size, 0, none⟩) 1 1, .int .i32 63] 210)).alloc (.cells #[.pointer (some ⟨(w7.heap.size + 1), 0, none⟩)] 195))) := Lib.hid (balloc (Below.refl _ _) _)
           have HBa := Lib.hid (HBk.out.below HBl.out)
           have HKa : Hid (PartAt (((w7.alloc (.cells #[.pointer (some ⟨ka, 0, none⟩)] 195)).alloc (.cells #[.int .i64 3, .slice none 0 0, .bool false, .bool false, .slice (some ⟨w7.heap.size, 0, none⟩) 1 1, .int .i32 63] 210)).alloc (.cells #[.pointer (some ⟨(w7.heap.size + 1), 0, none⟩)] 195)) (fun k => wr.heap.size ≤ k) (hh + 1) (w7.heap.size + 1) (Part.mk 3 [] false false [a] 63)) := Lib.hid (PartAt.move HBl.out.size (fun j hj _ => HBl.out.block j hj) (fun _ _ hd => hd) _ _ _ HKid.out)
           have c4 := blk_cell HBa.out.blk 4
           have c4' := blk_cell HBk.out.blk 4
           simp at c4 c4'
           have hlen : (acc.length + 1) * 8 ≤ 140737488355328 := by have := HAcc.out; have := HBr.out.rx.ok.hi; have := HBr.out.rx.sz; omega
           have hsz : w.heap.size ≤ (((w7.alloc (.cells #[.pointer (some ⟨ka, 0, none⟩)] 195)).alloc (.cells #[.int .i64 3, .slice none 0 0, .bool false, .bool false, .slice (some ⟨w7.heap.size, 0, none⟩) 1 1, .int .i32 63] 210)).alloc (.cells #[.pointer (some ⟨(w7.heap.size + 1), 0, none⟩)] 195)).heap.size := HBa.out.rx.apart.size
           go_wp2_with (at_builtin; refine wpList_app2 (w0 := ((w7.alloc (.cells #[.pointer (some ⟨ka, 0, none⟩)] 195)).alloc (.cells #[.int .i64 3, .slice none 0 0, .bool false, .bool false, .slice (some ⟨w7.heap.size, 0, none⟩) 1 1, .int .i32 63] 210)).alloc (.cells #[.pointer (some ⟨(w7.heap.size + 1), 0, none⟩)] 195)) w.heap.size rfl _ _ 207 195 _ 1 8 1 (encP ((w7.heap.size + 1))) rfl Tryz.underlying207 info_pp rfl (by decide) (by decide) kv (.slice (some ⟨(w7.heap.size + 1 + 1), 0, none⟩) 1 1) acc.length (ks.flatMap encP) ?hs ?hxe ?hx HBa.out.own (Below.refl _ _) hsz hlen ?_)
           try case hs => rfl
           try case hxe => rfl
           case hx => exact src_block (m := 1) (size := 1) (cs := #[.pointer (some ⟨(w7.heap.size + 1), 0, none⟩)]) (t := 195) (fr := (0, 0)) HLit.out rfl (fun u hu => by simp at hu; subst hu; rfl) 1
           intro v5 w5 hO5 hB5 hg5 hat5
           have HB5 := Lib.hid (br_push HBa.out hO5 hB5 hg5 (by simpa using hat5) HKa.out HBr.out.rx.apart.size HBr.out.size HBr.out.ownlt)
           have hb5 := (hg5.block pb HBa.out.size (fun e => HBa.out.ne e.symm)).trans HBa.out.blk
           have q4 := blk_cell hb5 4
           simp at q4
           have f4 : w5.frozen? ⟨pb, 4, none⟩ = false := free_blk (i := 4) hb5
           obtain ⟨A5, c5, rfl⟩ := own_slice hO5
           clear hO5 hB5 hg5 hat5 hb5 c4 c4' hsz
           have hpk5 := HB5.out.rx.peek
           cases hp5 : peekF s (skipF 63 r9) with
           | bad a9 e9 =>
            rw [hp5] at hpk5
            have HPk5 := Lib.hid hpk5
            have HFin : Hid (∀ W, Apart (fun k => k = rb) w W → RxPost w rb s (PartV w (hh + 2)) res (BadE a9 e9) W) := Lib.hid (fun W hA => by rw [HRes.out, ← HT3.out, hp5]; exact ⟨rfl, hA⟩)
            clear hpk5 hp5
            go_wp2_with fail
            refine HPk5.out.mono ?_
            rintro e w6 ⟨rfl, hb6⟩
            exact ⟨rfl, HFin.out _ (HB5.out.rx.apart.then hb6)⟩
           | ok c6 r6 =>
            obtain ⟨e6, -⟩ := peek_ok HB5.out.rx.ok.lo hp5
            rw [e6] at hp5
            have htail : branchLoop pat s n c6 (acc ++ [(Part.mk 3 [] false false [a] 63)]) (skipF 63 r9) = tot := by rw [← HT3.out, hp5]; rfl
            have HTail := Lib.hid htail
            have HP5 := Lib.hid hp5
            rw [hp5] at hpk5
            have HPk5 := Lib.hid hpk5
            have hnn : 1 ≤ n ∧ (s.size : Int) + 1 ≤ (skipF 63 r9).at_ + n ∧ r'.at_ + 1 ≤ (skipF 63 r9).at_ := by have := HN.out; have := HLt.out; have := HFw.out; omega
            have HNn := Lib.hid hnn
            have HDp6 : Hid ((skipF 63 r9).depth = r1.depth) := Lib.hid (HPf.out.depth.trans (HFa.out.depth.trans HDp.out))
            have hacc2 : (((acc ++ [(Part.mk 3 [] false false [a] 63)]).length : Nat) : Int) ≤ (skipF 63 r9).at_ := by rw [List.length_append]; have := HAcc.out; simp only [List.length_cons, List.length_nil]; omega
            have HAcc2 := Lib.hid hacc2
            clear hpk5 hp5 e6 htail hnn hacc2
            go_wp2_with fail
            refine HPk5.out.mono ?_
            rintro e w6 ⟨rfl, hb6⟩
            have HB6 := Lib.hid (HB5.out.below hb6)
            clear hb6
            go_wp2_with fail
            go_roundw
            case rel => exact ⟨n, c6, _, _, _, (skipF 63 r9), rfl, HNn.out.1, HNn.out.2.1, HP5.out, HTail.out, HAcc2.out, HDp6.out, HB6.out⟩
            case measure => exact RxM_lt HBr.out.rx.rd HB6.out.rx.rd HBr.out.rx.ok HB6.out.rx.ok HBr.out.rx.sz HNn.out.2.2
         | false =>
          rw [hsg] at hT3
          simp only [if_neg (show ¬ false = true by decide)] at hT3
          have HT3 := Lib.hid hT3
          have hg3 : ¬ g = 42 ∧ ¬ g = 43 ∧ ¬ g = 63 := by unfold signB at hsg; simp at hsg; omega
          have g1 : (g == 42) = false := by simpa using hg3.1
          have g2 : (g == 43) = false := by simpa using hg3.2.1
          have g3 : (g == 63) = false := by simpa using hg3.2.2
          have HKid : Hid (PartAt w4 (fun k => wr.heap.size ≤ k) (hh + 1) ka a) := Lib.hid (PartAt.up _ _ _ HPa4.out)
          have HBk := HB4
          have HFw : Hid (r'.at_ + 1 ≤ r9.at_) := Lib.hid (by have := HFa.out.fwd; omega)
          clear hT3 hsg hg3
          have HLit : Hid (((w4).alloc (.cells #[.pointer (some ⟨ka, 0, none⟩)] 195)).heap[w4.heap.size]? = some (.cells #[.pointer (some ⟨ka, 0, none⟩)] 195 (0, 0))) := Lib.hid (by have h9 := blk_new (w4) (.cells #[.pointer (some ⟨ka, 0, none⟩)] 195); simpa using h9)
          have HBl : Hid (Below (w4).heap.size (w4) ((w4).alloc (.cells #[.pointer (some ⟨ka, 0, none⟩)] 195))) := Lib.hid (balloc (Below.refl _ _) _)
          have HBa := Lib.hid (HBk.out.below HBl.out)
          have HKa : Hid (PartAt ((w4).alloc (.cells #[.pointer (some ⟨ka, 0, none⟩)] 195)) (fun k => wr.heap.size ≤ k) (hh + 1) ka a) := Lib.hid (PartAt.move HBl.out.size (fun j hj _ => HBl.out.block j hj) (fun _ _ hd => hd) _ _ _ HKid.out)
          have c4 := blk_cell HBa.out.blk 4
          have c4' := blk_cell HBk.out.blk 4
          simp at c4 c4'
          have hlen : (acc.length + 1) * 8 ≤ 140737488355328 := by have := HAcc.out; have := HBr.out.rx.ok.hi; have := HBr.out.rx.sz; omega
          have hsz : w.heap.size ≤ ((w4).alloc (.cells #[.pointer (some ⟨ka, 0, none⟩)] 195)).heap.size := HBa.out.rx.apart.size
          go_wp2_with (at_builtin; refine wpList_app2 (w0 := (w4).alloc (.cells #[.pointer (some ⟨ka, 0, none⟩)] 195)) w.heap.size rfl _ _ 207 195 _ 1 8 1 (encP (ka)) rfl Tryz.underlying207 info_pp rfl (by decide) (by decide) kv (.slice (some ⟨w4.heap.size, 0, none⟩) 1 1) acc.length (ks.flatMap encP) ?hs ?hxe ?hx HBa.out.own (Below.refl _ _) hsz hlen ?_)
          try case hs => rfl
          try case hxe => rfl
          case hx => exact src_block (m := 1) (size := 1) (cs := #[.pointer (some ⟨ka, 0, none⟩)]) (t := 195) (fr := (0, 0)) HLit.out rfl (fun u hu => by simp at hu; subst hu; rfl) 1
          intro v5 w5 hO5 hB5 hg5 hat5
          have HB5 := Lib.hid (br_push HBa.out hO5 hB5 hg5 (by simpa using hat5) HKa.out HBr.out.rx.apart.size HBr.out.size HBr.out.ownlt)
          have hb5 := (hg5.block pb HBa.out.size (fun e => HBa.out.ne e.symm)).trans HBa.out.blk
          have q4 := blk_cell hb5 4
          simp at q4
          have f4 : w5.frozen? ⟨pb, 4, none⟩ = false := free_blk (i := 4) hb5
          obtain ⟨A5, c5, rfl⟩ := own_slice hO5
          clear hO5 hB5 hg5 hat5 hb5 c4 c4' hsz
          have hpk5 := HB5.out.rx.peek
          cases hp5 : peekF s r9 with
          | bad a9 e9 =>
           rw [hp5] at hpk5
           have HPk5 := Lib.hid hpk5
           have HFin : Hid (∀ W, Apart (fun k => k = rb) w W → RxPost w rb s (PartV w (hh + 2)) res (BadE a9 e9) W) := Lib.hid (fun W hA => by rw [HRes.out, ← HT3.out, hp5]; exact ⟨rfl, hA⟩)
           clear hpk5 hp5
           go_wp2_with fail
           refine HPk5.out.mono ?_
           rintro e w6 ⟨rfl, hb6⟩
           exact ⟨rfl, HFin.out _ (HB5.out.rx.apart.then hb6)⟩
          | ok c6 r6 =>
           obtain ⟨e6, -⟩ := peek_ok HB5.out.rx.ok.lo hp5
           rw [e6] at hp5
           have htail : branchLoop pat s n c6 (acc ++ [a]) r9 = tot := by rw [← HT3.out, hp5]; rfl
           have HTail := Lib.hid htail
           have HP5 := Lib.hid hp5
           rw [hp5] at hpk5
           have HPk5 := Lib.hid hpk5
           have hnn : 1 ≤ n ∧ (s.size : Int) + 1 ≤ r9.at_ + n ∧ r'.at_ + 1 ≤ r9.at_ := by have := HN.out; have := HLt.out; have := HFw.out; omega
           have HNn := Lib.hid hnn
           have HDp6 : Hid (r9.depth = r1.depth) := Lib.hid (HFa.out.depth.trans HDp.out)
           have hacc2 : (((acc ++ [a]).length : Nat) : Int) ≤ r9.at_ := by rw [List.length_append]; have := HAcc.out; simp only [List.length_cons, List.length_nil]; omega
           have HAcc2 := Lib.hid hacc2
           clear hpk5 hp5 e6 htail hnn hacc2
           go_wp2_with fail
           refine HPk5.out.mono ?_
           rintro e w6 ⟨rfl, hb6⟩
           have HB6 := Lib.hid (HB5.out.below hb6)
           clear hb6
           go_wp2_with fail
           go_roundw
           case rel => exact ⟨n, c6, _, _, _, r9, rfl, HNn.out.1, HNn.out.2.1, HP5.out, HTail.out, HAcc2.out, HDp6.out, HB6.out⟩
           case measure => exact RxM_lt HBr.out.rx.rd HB6.out.rx.rd HBr.out.rx.ok HB6.out.rx.ok HBr.out.rx.sz HNn.out.2.2
    ·have e0 : decide (c ≥ 0) = false := decide_eq_false hc0
     have e0' : decide (0 ≤ c) = false := decide_eq_false hc0
     have htot2 : tot = .ok acc r' := by rw [← htot]; unfold branchLoop; rw [if_neg (by omega)]
     have HFin : Hid (RxPost w rb s (PartV w (hh + 2)) res (.returned (.pointer (some ⟨pb, 0, none⟩))) wr) := Lib.hid (by rw [HRes.out, htot2]; exact ⟨_, rfl, ⟨pb, rfl, br_end HBr.out (.inl rfl)⟩, HBr.out.rx⟩)
     clear htot2 htot hacc hB hn hsz hpk hdp
     go_wp2_with fail
     go_ret
     exact HFin.out
end Go.Proofs.YtlhmdgaohonpbaaGreatDoor
