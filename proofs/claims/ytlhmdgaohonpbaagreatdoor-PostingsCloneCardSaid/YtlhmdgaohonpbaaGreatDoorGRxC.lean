import Derived.Test.YtlhmdgaohonpbaaGreatDoorGRxA
set_option linter.unusedSimpArgs false
set_option linter.unusedVariables false
set_option linter.unusedSectionVars false
namespace Go.Proofs.YtlhmdgaohonpbaaGreatDoor
open Go.RowKit Go.Proofs.YtlhmdgaohonpbaaGreatDoor.MapRaw Go.ChangeMaps
set_option maxRecDepth 100000 in
set_option maxHeartbeats 1000000 in
theorem rex_member {w : World} {rb : Nat} {s : ByteArray} {r : Rs} (h : RxW w rb s r w) :
  Calls Tryz.prog 170 #[.pointer (some ⟨rb, 0, none⟩)] w (RxPost w rb s (EscV w.heap.size) (memberF s r)) := by
 have hpeek := h.peek
 have HW := Lib.hid h
 have hef : memberF s r = (peekF s r).on fun c r => if c = -1 ∨ c = 91 ∨ c = 93 ∨ c = 94 ∨ c = 45 then .bad r.at_ 8 else if c = 92 then escapeF s (skipF c r) else .ok ([⟨c, c⟩], true) (skipF c r) := rfl
 cases hp : peekF s r with
 | bad a n =>
  rw [hp] at hpeek hef
  simp only [Out.on] at hef
  rw [hef]
  have HPeek := Lib.hid hpeek
  clear hpeek hp hef h
  go_enter Tryz.func170, Tryz.ntmps170
  go_wp2_with fail
  refine HPeek.out.mono ?_
  rintro e w1 ⟨rfl, hb⟩
  exact ⟨rfl, rfl, below_apart hb _⟩
 | ok c r1 =>
  obtain ⟨rfl, hc3⟩ := peek_ok h.ok.lo hp
  rw [hp] at hpeek hef
  simp only [Out.on] at hef
  have HPeek := Lib.hid hpeek
  have HP := Lib.hid hp
  generalize memberF s r1 = res at *
  by_cases hs : c = -1 ∨ c = 91 ∨ c = 93 ∨ c = 94 ∨ c = 45
  ·rw [if_pos hs] at hef
   have HRes := Lib.hid hef
   clear hef hpeek hp h hc3
   rcases hs with rfl | rfl | rfl | rfl | rfl
   all_goals
    go_enter Tryz.func170, Tryz.ntmps170
    go_wp2_with fail
    refine HPeek.out.mono ?_
    rintro e w1 ⟨rfl, hb⟩
    have HW1 := Lib.hid (HW.out.below hb)
    clear hb
    go_wp2_with fail
    refine (HW1.out.bad 8).mono ?_
    rintro e w3 ⟨rfl, rfl⟩
    refine ⟨rfl, ?_⟩
    rw [HRes.out]
    exact ⟨rfl, HW1.out.apart⟩
  ·rw [if_neg hs] at hef
   have e1 : (c == -1) = false := by simp; omega
   have e2 : (c == 91) = false := by simp; omega
   have e3 : (c == 93) = false := by simp; omega
   have e4 : (c == 94) = false := by simp; omega
   have e5 : (c == 45) = false := by simp; omega
   have HCm : Hid (c ≠ -1) := Lib.hid (fun e => hs (.inl e))
   by_cases h92 : c = 92
   ·have e6 : (c == 92) = true := by simpa using h92
    rw [if_pos h92] at hef
    have HRes := Lib.hid hef
    clear hef hpeek hp h hc3 hs h92
    go_enter Tryz.func170, Tryz.ntmps170
    go_wp2_with fail
    refine HPeek.out.mono ?_
    rintro e w1 ⟨rfl, hb⟩
    have HB1 := Lib.hid hb
    have HW1 := Lib.hid (HW.out.below hb)
    clear hb
    go_wp2_with fail
    refine (HW1.out.skip HP.out HCm.out).mono ?_
    rintro e w2 ⟨rfl, hW2, hA2⟩
    have HW2 := Lib.hid hW2
    have HA2 := Lib.hid (HW1.out.apart.trans hA2 (fun _ _ h => h))
    have HS := Lib.hid (Nat.le_trans HB1.out.size hA2.size)
    clear hW2 hA2
    go_wp2_with fail
    refine (rex_escape (RxW.start HW2.out.rd HW2.out.tabs HW2.out.b2 HW2.out.ok HW2.out.sz)).mono ?_
    rintro e w3 hpost
    rw [← HRes.out] at hpost
    cases hr : res with
    | bad a n =>
     rw [hr] at hpost
     obtain ⟨rfl, hA⟩ := hpost
     exact ⟨rfl, rfl, HA2.out.trans hA (fun _ _ h => h)⟩
    | ok x r3 =>
     rw [hr] at hpost
     obtain ⟨v, rfl, ⟨sv, rfl, hO⟩, hW3⟩ := hpost
     obtain ⟨xl, xb⟩ := x
     have HFin : Hid (RxPost w rb s (EscV w.heap.size) res (.returned (.tuple #[sv, .bool xb])) w3) := Lib.hid (by rw [hr]; exact ⟨_, rfl, ⟨_, rfl, own_shift hO HS.out⟩, ⟨hW3.rd, hW3.tabs, HA2.out.trans hW3.apart (fun _ _ h => h), hW3.b2, hW3.ok, hW3.sz⟩⟩)
     clear hO hW3
     simp only
     go_wp2_with fail
     go_ret2
     exact HFin.out
   ·have e6 : (c == 92) = false := by simpa using h92
    rw [if_neg h92] at hef
    have HRes := Lib.hid hef
    clear hef hpeek hp h hc3 hs h92
    go_enter Tryz.func170, Tryz.ntmps170
    go_wp2_with fail
    refine HPeek.out.mono ?_
    rintro e w1 ⟨rfl, hb⟩
    have HB1 := Lib.hid hb
    have HW1 := Lib.hid (HW.out.below hb)
    clear hb
    go_wp2_with fail
    refine (HW1.out.skip HP.out HCm.out).mono ?_
    rintro e w4 ⟨rfl, hW4, hA4⟩
    have HW4 := Lib.hid hW4
    have HS := Lib.hid (Nat.le_trans HB1.out.size hA4.size)
    clear hW4 hA4
    go_wp2_with fail
    have hfin : RxPost w rb s (EscV w.heap.size) res (.returned (.tuple #[.slice (some ⟨w4.heap.size, 0, none⟩) 1 1, .bool true])) (w4.alloc (.cells #[.int .i32 c, .int .i32 c] 221)) := by
     rw [HRes.out]
     exact ⟨_, rfl, ⟨_, rfl, own_shift (own_new (n := 1) (sz := 2) rfl (by decide)) HS.out⟩, HW4.out.below (balloc (Below.refl _ _) _)⟩
    have HFin := Lib.hid hfin
    clear hfin
    go_ret2
    exact HFin.out
theorem own_sp1 {W : World} {base : Nat} {v : Value} {y : Sp} (h : OwnS W base v [y]) : ∃ b off c, v = .slice (some ⟨b, off, none⟩) 1 c ∧ W.cell? ⟨b, off, none⟩ = some (.int .i32 y.lo) := by
 obtain ⟨A, c, rfl, -, -, -, -, hR⟩ := own_slc (enc := Sp.enc) (fun _ => rfl) rfl h
 obtain ⟨b, off, rfl, hc⟩ := hR 0 y rfl
 have z := hc 0 _ rfl
 simp at z
 exact ⟨b, off, c, rfl, z⟩
def IntV (_ : World) (x : Int) (v : Value) : Prop := v = .int .i32 x
set_option maxRecDepth 100000 in
set_option maxHeartbeats 2000000 in
theorem rex_upper {w : World} {rb : Nat} {s : ByteArray} {r : Rs} (lo : Int) (h : RxW w rb s r w) :
  Calls Tryz.prog 171 #[.pointer (some ⟨rb, 0, none⟩), .int .i32 lo] w (RxPost w rb s IntV (upperF s lo r)) := by
 have hpeek := h.peek
 have HW := Lib.hid h
 obtain ⟨c0, c1, c2, c3⟩ := h.rd.cells
 have hef : upperF s lo r = (peekF s r).on fun c r' => if c = 92 ∧ 125 < lo then .bad r'.at_ 8 else (memberF s r').on fun x r' => if x.2 = false ∨ loOf x.1 < lo then .bad (if c = 92 then r.at_ + 1 else r.at_) 8 else .ok (loOf x.1) r' := rfl
 have h1 := h.ok.lo
 have h2 := h.ok.hi
 have h3 := h.sz
 have hsum : IntKind.i64.wrap (r.at_ + 1) = r.at_ + 1 := IntWalk.i64_in _ (by omega)
 cases hp : peekF s r with
 | bad a n =>
  rw [hp] at hpeek hef
  simp only [Out.on] at hef
  rw [hef]
  have HPeek := Lib.hid hpeek
  clear hpeek hp hef h
  go_enter Tryz.func171, Tryz.ntmps171
  go_wp2_with fail
  refine HPeek.out.mono ?_
  rintro e w1 ⟨rfl, hb⟩
  exact ⟨rfl, rfl, below_apart hb _⟩
 | ok c r1 =>
  obtain ⟨rfl, hc3⟩ := peek_ok h.ok.lo hp
  rw [hp] at hpeek hef
  simp only [Out.on] at hef
  have HPeek := Lib.hid hpeek
  generalize upperF s lo r1 = res at *
  by_cases h92 : c = 92
  ·have e6 : (c == 92) = true := by simpa using h92
   by_cases hlo : 125 < lo
   ·have hd : decide (lo > 125) = true := decide_eq_true hlo
    have hd2 : decide (125 < lo) = true := decide_eq_true hlo
    rw [if_pos ⟨h92, hlo⟩] at hef
    have HRes := Lib.hid hef
    clear hef hpeek hp h hc3 h92 hlo
    go_enter Tryz.func171, Tryz.ntmps171
    go_wp2_with fail
    refine HPeek.out.mono ?_
    rintro e w1 ⟨rfl, hb⟩
    have HW1 := Lib.hid (HW.out.below hb)
    clear hb
    go_wp2_with fail
    refine (HW1.out.bad 8).mono ?_
    rintro e w3 ⟨rfl, rfl⟩
    refine ⟨rfl, ?_⟩
    rw [HRes.out]
    exact ⟨rfl, HW1.out.apart⟩
   ·have hd : decide (lo > 125) = false := decide_eq_false hlo
    have hd2 : decide (125 < lo) = false := decide_eq_false hlo
    rw [if_neg (fun g => hlo g.2)] at hef
    have HRes := Lib.hid hef
    have H92 := Lib.hid h92
    clear hef hpeek hp h hc3 h92 hlo
    go_enter Tryz.func171, Tryz.ntmps171
    go_wp2_with fail
    refine HPeek.out.mono ?_
    rintro e w1 ⟨rfl, hb⟩
    have HW1 := Lib.hid (HW.out.below hb)
    clear hb c0 c1 c2 c3
    go_wp2_with fail
    refine (rex_member (RxW.start HW1.out.rd HW1.out.tabs HW1.out.b2 HW1.out.ok HW1.out.sz)).mono ?_
    rintro e w3 hpost
    cases hr : memberF s r1 with
    | bad a n =>
     rw [hr] at hpost
     obtain ⟨rfl, hA⟩ := hpost
     have HFin : Hid (RxPost w rb s IntV res (BadE a n) w3) := Lib.hid (by rw [HRes.out, hr]; exact ⟨rfl, HW1.out.apart.trans hA (fun _ _ h => h)⟩)
     clear hr hA
     exact ⟨rfl, HFin.out⟩
    | ok x r3 =>
     have hlen := (member_fwd HW1.out.ok hr).2
     rw [hr] at hpost
     obtain ⟨v, rfl, ⟨sv, rfl, hO⟩, hW3⟩ := hpost
     have HW3 : Hid (RxW w rb s r3 w3) := Lib.hid ⟨hW3.rd, hW3.tabs, HW1.out.apart.trans hW3.apart (fun _ _ h => h), hW3.b2, hW3.ok, hW3.sz⟩
     have hres := HRes.out
     rw [hr] at hres
     simp only [Out.on] at hres
     clear hW3 hr
     obtain ⟨xl, xb⟩ := x
     simp only at hO hlen hres
     have c1 := (HW3.out.rd.cells).2.1
     have f1 : w3.frozen? ⟨rb, 1, none⟩ = false := free_blk (i := 1) HW3.out.rd
     cases xb with
     | false =>
      have HFin : Hid (∀ W, Apart (fun k => k = rb) w W → RxPost w rb s IntV res (BadE (r1.at_ + 1) 8) W) := Lib.hid (fun W hA => by rw [hres, if_pos (.inl rfl)]; exact ⟨by rw [if_pos H92.out], hA⟩)
      have hbad := rex_bad rb s ⟨r1.at_ + 1, r3.depth, r3.size⟩ 8 (w3.setCell ⟨rb, 1, none⟩ (.int .i64 (r1.at_ + 1))) (setCell_blk (i := 1) (.int .i64 (r1.at_ + 1)) HW3.out.rd)
      have HBad := Lib.hid hbad
      have HA3 : Hid (Apart (fun k => k = rb) w (w3.setCell ⟨rb, 1, none⟩ (.int .i64 (r1.at_ + 1)))) := Lib.hid ((HW3.out.apart).setC ⟨rb, 1, none⟩ (.inl rfl) _)
      clear hO hlen hres hbad
      go_wp2_with fail
      refine HBad.out.mono ?_
      rintro e w4 ⟨rfl, rfl⟩
      exact ⟨rfl, HFin.out _ HA3.out⟩
     | true =>
      obtain ⟨y, rfl⟩ : ∃ y, xl = [y] := by
       match xl, hlen rfl with
       | [y], _ => exact ⟨y, rfl⟩
      obtain ⟨b, off, c, rfl, z0⟩ := own_sp1 hO
      by_cases hlo : y.lo < lo
      ·have hd : decide (y.lo < lo) = true := decide_eq_true hlo
       have HFin : Hid (∀ W, Apart (fun k => k = rb) w W → RxPost w rb s IntV res (BadE (r1.at_ + 1) 8) W) := Lib.hid (fun W hA => by rw [hres, if_pos (.inr hlo)]; exact ⟨by rw [if_pos H92.out], hA⟩)
       have hbad := rex_bad rb s ⟨r1.at_ + 1, r3.depth, r3.size⟩ 8 (w3.setCell ⟨rb, 1, none⟩ (.int .i64 (r1.at_ + 1))) (setCell_blk (i := 1) (.int .i64 (r1.at_ + 1)) HW3.out.rd)
       have HBad := Lib.hid hbad
       have HA3 : Hid (Apart (fun k => k = rb) w (w3.setCell ⟨rb, 1, none⟩ (.int .i64 (r1.at_ + 1)))) := Lib.hid ((HW3.out.apart).setC ⟨rb, 1, none⟩ (.inl rfl) _)
       clear hO hlen hres hbad hlo
       go_wp2_with fail
       refine HBad.out.mono ?_
       rintro e w4 ⟨rfl, rfl⟩
       exact ⟨rfl, HFin.out _ HA3.out⟩
      ·have hd : decide (y.lo < lo) = false := decide_eq_false hlo
       have HFin : Hid (RxPost w rb s IntV res (.returned (.int .i32 y.lo)) w3) := Lib.hid (by rw [hres, if_neg (by simp [loOf]; omega)]; exact ⟨_, rfl, rfl, HW3.out⟩)
       clear hO hlen hres hlo
       go_wp2_with fail
       go_ret
       exact HFin.out
  ·have e6 : (c == 92) = false := by simpa using h92
   rw [if_neg (fun g => h92 g.1)] at hef
   have HRes := Lib.hid hef
   have H92 := Lib.hid h92
   clear hef hpeek hp h hc3 h92
   go_enter Tryz.func171, Tryz.ntmps171
   go_wp2_with fail
   refine HPeek.out.mono ?_
   rintro e w1 ⟨rfl, hb⟩
   have HW1 := Lib.hid (HW.out.below hb)
   clear hb c0 c1 c2 c3
   go_wp2_with fail
   refine (rex_member (RxW.start HW1.out.rd HW1.out.tabs HW1.out.b2 HW1.out.ok HW1.out.sz)).mono ?_
   rintro e w3 hpost
   cases hr : memberF s r1 with
   | bad a n =>
    rw [hr] at hpost
    obtain ⟨rfl, hA⟩ := hpost
    have HFin : Hid (RxPost w rb s IntV res (BadE a n) w3) := Lib.hid (by rw [HRes.out, hr]; exact ⟨rfl, HW1.out.apart.trans hA (fun _ _ h => h)⟩)
    clear hr hA
    exact ⟨rfl, HFin.out⟩
   | ok x r3 =>
    have hlen := (member_fwd HW1.out.ok hr).2
    rw [hr] at hpost
    obtain ⟨v, rfl, ⟨sv, rfl, hO⟩, hW3⟩ := hpost
    have HW3 : Hid (RxW w rb s r3 w3) := Lib.hid ⟨hW3.rd, hW3.tabs, HW1.out.apart.trans hW3.apart (fun _ _ h => h), hW3.b2, hW3.ok, hW3.sz⟩
    have hres := HRes.out
    rw [hr] at hres
    simp only [Out.on] at hres
    clear hW3 hr
    obtain ⟨xl, xb⟩ := x
    simp only at hO hlen hres
    have c1 := (HW3.out.rd.cells).2.1
    have f1 : w3.frozen? ⟨rb, 1, none⟩ = false := free_blk (i := 1) HW3.out.rd
    cases xb with
    | false =>
     have HFin : Hid (∀ W, Apart (fun k => k = rb) w W → RxPost w rb s IntV res (BadE (r1.at_) 8) W) := Lib.hid (fun W hA => by rw [hres, if_pos (.inl rfl)]; exact ⟨by rw [if_neg H92.out], hA⟩)
     have hbad := rex_bad rb s ⟨r1.at_, r3.depth, r3.size⟩ 8 (w3.setCell ⟨rb, 1, none⟩ (.int .i64 (r1.at_))) (setCell_blk (i := 1) (.int .i64 (r1.at_)) HW3.out.rd)
     have HBad := Lib.hid hbad
     have HA3 : Hid (Apart (fun k => k = rb) w (w3.setCell ⟨rb, 1, none⟩ (.int .i64 (r1.at_)))) := Lib.hid ((HW3.out.apart).setC ⟨rb, 1, none⟩ (.inl rfl) _)
     clear hO hlen hres hbad
     go_wp2_with fail
     refine HBad.out.mono ?_
     rintro e w4 ⟨rfl, rfl⟩
     exact ⟨rfl, HFin.out _ HA3.out⟩
    | true =>
     obtain ⟨y, rfl⟩ : ∃ y, xl = [y] := by
      match xl, hlen rfl with
      | [y], _ => exact ⟨y, rfl⟩
     obtain ⟨b, off, c, rfl, z0⟩ := own_sp1 hO
     by_cases hlo : y.lo < lo
     ·have hd : decide (y.lo < lo) = true := decide_eq_true hlo
      have HFin : Hid (∀ W, Apart (fun k => k = rb) w W → RxPost w rb s IntV res (BadE (r1.at_) 8) W) := Lib.hid (fun W hA => by rw [hres, if_pos (.inr hlo)]; exact ⟨by rw [if_neg H92.out], hA⟩)
      have hbad := rex_bad rb s ⟨r1.at_, r3.depth, r3.size⟩ 8 (w3.setCell ⟨rb, 1, none⟩ (.int .i64 (r1.at_))) (setCell_blk (i := 1) (.int .i64 (r1.at_)) HW3.out.rd)
      have HBad := Lib.hid hbad
      have HA3 : Hid (Apart (fun k => k = rb) w (w3.setCell ⟨rb, 1, none⟩ (.int .i64 (r1.at_)))) := Lib.hid ((HW3.out.apart).setC ⟨rb, 1, none⟩ (.inl rfl) _)
      clear hO hlen hres hbad hlo
      go_wp2_with fail
      refine HBad.out.mono ?_
      rintro e w4 ⟨rfl, rfl⟩
      exact ⟨rfl, HFin.out _ HA3.out⟩
     ·have hd : decide (y.lo < lo) = false := decide_eq_false hlo
      have HFin : Hid (RxPost w rb s IntV res (.returned (.int .i32 y.lo)) w3) := Lib.hid (by rw [hres, if_neg (by simp [loOf]; omega)]; exact ⟨_, rfl, rfl, HW3.out⟩)
      clear hO hlen hres hlo
      go_wp2_with fail
      go_ret
      exact HFin.out
end Go.Proofs.YtlhmdgaohonpbaaGreatDoor

namespace Go.Proofs.YtlhmdgaohonpbaaGreatDoor
open Go.RowKit Go.Proofs.YtlhmdgaohonpbaaGreatDoor.MapRaw Go.ChangeMaps
def encP (k : Nat) : List Value := [.pointer (some ⟨k, 0, none⟩)]
theorem Slc.to {α : Type} {sz : Nat} {enc : α → List Value} {w w' : World} {D D' : Nat → Prop} {v : Value} {l : List α} (h : Slc sz enc w D v l) (hs : w.heap.size ≤ w'.heap.size) (hb : ∀ k, k < w.heap.size → D k → w'.heap[k]? = w.heap[k]?) (hD : ∀ k, k < w.heap.size → D k → D' k) : Slc sz enc w' D' v l :=
 (Slc.move (Slc.mono (D' := fun k => D' k ∧ D k) h (fun k hk hd => ⟨hD k hk hd, hd⟩)) hs (fun k hk hd => hb k hk hd.2)).mono (fun _ _ h => h.1)
def PartAt (w : World) (D : Nat → Prop) : Nat → Nat → Part → Prop
 | 0, _, _ => False
 | h + 1, b, .mk kind set but plain parts sign => D b ∧ (kind = 0 ∨ kind = 1 ∨ kind = 2 ∨ parts ≠ []) ∧ ∃ sv kv, ∃ ks : List Nat, w.heap[b]? = some (.cells #[.int .i64 kind, sv, .bool but, .bool plain, kv, .int .i32 sign] 210 (0, 0)) ∧ Slc 2 Sp.enc w D sv set ∧ Slc 1 encP w D kv ks ∧ ks.length = parts.length ∧ ∀ (i k : Nat), ks[i]? = some k → ∀ p, parts[i]? = some p → PartAt w D h k p
theorem PartAt.move {w w' : World} {D D' : Nat → Prop} (hs : w.heap.size ≤ w'.heap.size) (hb : ∀ k, k < w.heap.size → D k → w'.heap[k]? = w.heap[k]?) (hD : ∀ k, k < w.heap.size → D k → D' k) : ∀ (h b : Nat) (p : Part), PartAt w D h b p → PartAt w' D' h b p
 | 0, _, _, h => h.elim
 | h + 1, b, .mk kind set but plain parts sign, ⟨h0, hk, sv, kv, ks, h1, h2, h3, h4, h5⟩ => by
  have hlt : b < w.heap.size := (Array.getElem?_eq_some_iff.1 h1).1
  exact ⟨hD b hlt h0, hk, sv, kv, ks, (hb b hlt h0).trans h1, h2.to hs hb hD, h3.to hs hb hD, h4, fun i k hi p hp => PartAt.move hs hb hD h k p (h5 i k hi p hp)⟩
theorem PartAt.up {w : World} {D : Nat → Prop} : ∀ (h b : Nat) (p : Part), PartAt w D h b p → PartAt w D (h + 1) b p
 | 0, _, _, h => h.elim
 | h + 1, b, .mk kind set but plain parts sign, ⟨h0, hk, sv, kv, ks, h1, h2, h3, h4, h5⟩ => ⟨h0, hk, sv, kv, ks, h1, h2, h3, h4, fun i k hi p hp => PartAt.up h k p (h5 i k hi p hp)⟩
theorem PartAt.le {w : World} {D : Nat → Prop} {h h' b : Nat} {p : Part} (hp : PartAt w D h b p) (hle : h ≤ h') : PartAt w D h' b p := by
 induction hle with
 | refl => exact hp
 | step _ ih => exact PartAt.up _ _ _ ih
def RxM (rb : Nat) (w : World) : Nat := 300 - ((w.cell? ⟨rb, 1, none⟩).map fun v => (intOf v).toNat).getD 0
theorem RxM_at {W : World} {rb : Nat} {s : ByteArray} {r : Rs} (h : RdAt W rb s r) : RxM rb W = 300 - r.at_.toNat := by
 unfold RxM; rw [h.cells.2.1]; rfl
theorem RxM_lt {W W' : World} {rb : Nat} {s : ByteArray} {r r' : Rs} (h : RdAt W rb s r) (h' : RdAt W' rb s r') (ho : RsOk s r) (ho' : RsOk s r') (hs : s.size ≤ 256) (hlt : r.at_ + 1 ≤ r'.at_) : RxM rb W' < RxM rb W := by
 rw [RxM_at h, RxM_at h']
 have := ho.lo
 have := ho'.hi
 omega
theorem info_sp : (Tryz.prog.info? 221).map (fun i => (i.zero, i.size, i.bytes)) = some (some (.agg #[.int .i32 0, .int .i32 0]), 2, 8) := by kernel_rfl
theorem sp_one (x : Sp) : ∀ u ∈ x.enc, u.oneCell' = true := by
 intro u hu
 simp [Sp.enc] at hu
 rcases hu with rfl | rfl <;> rfl
theorem sp_src {W : World} {base : Nat} {v : Value} {l : List Sp} (h : OwnS W base v l) : SrcAt W v l.length 2 (l.flatMap Sp.enc) :=
 Slc.src (sz := 2) (enc := Sp.enc) (fun _ => rfl) sp_one (by decide) (own_slc (enc := Sp.enc) (fun _ => rfl) rfl h)
structure ClsAt (w : World) (rb : Nat) (s : ByteArray) (but : Bool) (sv : Value) (acc : List Sp) (r : Rs) (W : World) : Prop where
 rx : RxW w rb s r W
 lt : rb < w.heap.size
 blk : W.heap[w.heap.size]? = some (.cells #[.int .i64 0, sv, .bool but, .bool false, .slice none 0 0, .int .i32 0] 210 (0, 0))
 own : OwnS W (w.heap.size + 1) sv acc
theorem ClsAt.size {w W : World} {rb : Nat} {s : ByteArray} {but : Bool} {sv : Value} {acc : List Sp} {r : Rs} (h : ClsAt w rb s but sv acc r W) : w.heap.size + 1 ≤ W.heap.size := (Array.getElem?_eq_some_iff.1 h.blk).1
theorem ClsAt.turn {w W W' : World} {rb : Nat} {s : ByteArray} {but : Bool} {sv : Value} {acc : List Sp} {r r' : Rs} (h : ClsAt w rb s but sv acc r W) (hr : RdAt W' rb s r') (hA : Apart (fun k => k = rb) W W') (hok : RsOk s r') : ClsAt w rb s but sv acc r' W' := by
 have hlt := h.lt
 have hsz := h.size
 refine ⟨h.rx.turn hr hA hok, h.lt, (hA.block _ (by omega) (by omega)).trans h.blk, ownsRow_move h.own fun k hk => ?_⟩
 have := ownsRow_blk h.own k hk
 exact hA.block k this.2 (by omega)
theorem ClsAt.below {w W W' : World} {rb : Nat} {s : ByteArray} {but : Bool} {sv : Value} {acc : List Sp} {r : Rs} (h : ClsAt w rb s but sv acc r W) (hb : Below W.heap.size W W') : ClsAt w rb s but sv acc r W' := h.turn (h.rx.rd.below hb) (below_apart hb _) h.rx.ok
theorem cls_push {w W w1 : World} {rb : Nat} {s : ByteArray} {but : Bool} {sv v1 : Value} {acc l : List Sp} {r : Rs} (h : ClsAt w rb s but sv acc r W) (ho : w1.ownsRow (w.heap.size + 1) 221 2 v1 (acc.length + l.length) (acc.flatMap Sp.enc ++ l.flatMap Sp.enc)) (hb : Below (w.heap.size + 1) W w1) : ClsAt w rb s but v1 (acc ++ l) r (w1.setCell ⟨w.heap.size, 1, none⟩ v1) := by
 have hlt := h.lt
 have hsz := h.size
 have hA : Apart (fun k => k = w.heap.size ∨ w.heap.size + 1 ≤ k) W (w1.setCell ⟨w.heap.size, 1, none⟩ v1) :=
  Apart.setC (P := fun k => k = w.heap.size ∨ w.heap.size + 1 ≤ k) ⟨hb.os, hb.tape, hb.output, hb.size, fun k _ hk => hb.block k (by omega)⟩ ⟨w.heap.size, 1, none⟩ (.inl (.inl rfl)) v1
 have hrd : RdAt (w1.setCell ⟨w.heap.size, 1, none⟩ v1) rb s r := (hA.block rb (by omega) (by omega)).trans h.rx.rd
 refine ⟨⟨hrd, h.rx.tabs.keep fun k hk => hA.block k (by omega) (by have := h.rx.b2; omega), h.rx.apart.trans hA (fun i hi hk => by omega), h.rx.b2, h.rx.ok, h.rx.sz⟩, h.lt, ?_, ?_⟩
 ·exact setCell_blk (i := 1) v1 ((hb.block _ (by omega)).trans h.blk)
 ·have := ownsRow_move (w' := w1.setCell ⟨w.heap.size, 1, none⟩ v1) ho (fun k hk => Below.heap_setCell _ _ _ _ (by have := (ownsRow_blk ho k hk).1; show k ≠ w.heap.size; omega))
  unfold OwnS
  rw [List.length_append, List.flatMap_append]
  exact this
def PartV (w : World) (h : Nat) (w' : World) (p : Part) (v : Value) : Prop := ∃ b, v = .pointer (some ⟨b, 0, none⟩) ∧ PartAt w' (fun k => w.heap.size ≤ k) h b p
theorem cls_end {w W W' : World} {rb : Nat} {s : ByteArray} {but : Bool} {sv : Value} {acc : List Sp} {r : Rs} (h : ClsAt w rb s but sv acc r W) (hA : Apart (fun k => k = rb) W W') : PartAt W' (fun k => w.heap.size ≤ k) 1 w.heap.size (.mk 0 acc but false [] 0) := by
 have hlt := h.lt
 have hsz := h.size
 have h2 := own_slc (enc := Sp.enc) (fun _ => rfl) rfl (own_shift h.own (Nat.le_succ _))
 exact ⟨Nat.le_refl _, .inl rfl, sv, _, [], (hA.block _ (by omega) (by omega)).trans h.blk, Slc.move h2 hA.size (fun k hk hD => hA.block k hk (by omega)), Slc.nil _ _ _ _, rfl, fun i k hi => by simp at hi⟩
theorem cls_but {w W : World} {rb : Nat} {s : ByteArray} {but : Bool} {sv : Value} {acc : List Sp} {r : Rs} (h : ClsAt w rb s but sv acc r W) : ClsAt w rb s true sv acc r (W.setCell ⟨w.heap.size, 2, none⟩ (.bool true)) := by
 have hlt := h.lt
 have hsz := h.size
 have hA : Apart (fun k => k = w.heap.size) W (W.setCell ⟨w.heap.size, 2, none⟩ (.bool true)) := (Apart.refl (fun k => k = w.heap.size) W).setC ⟨w.heap.size, 2, none⟩ (.inl rfl) (.bool true)
 refine ⟨⟨(hA.block rb (by omega) (by omega)).trans h.rx.rd, h.rx.tabs.keep fun k hk => hA.block k (by omega) (by have := h.rx.b2; omega), h.rx.apart.trans hA (fun i hi hk => by omega), h.rx.b2, h.rx.ok, h.rx.sz⟩, h.lt, setCell_blk (i := 2) (.bool true) h.blk, ownsRow_move h.own fun k hk => ?_⟩
 have := ownsRow_blk h.own k hk
 exact hA.block k this.2 (by omega)
theorem rx_size {w0 W : World} {rb : Nat} {s : ByteArray} {r : Rs} (h : RxW w0 rb s r W) : RxW w0 rb s (moreSz r) (W.setCell ⟨rb, 3, none⟩ (.int .i64 (wrap64 (r.size + 1)))) ∧ Apart (fun k => k = rb) W (W.setCell ⟨rb, 3, none⟩ (.int .i64 (wrap64 (r.size + 1)))) := by
 have hA := (Apart.refl (fun k => k = rb) W).setC ⟨rb, 3, none⟩ (.inl rfl) (.int .i64 (wrap64 (r.size + 1)))
 exact ⟨h.turn (r' := moreSz r) (setCell_blk (i := 3) (.int .i64 (wrap64 (r.size + 1))) h.rd) hA ⟨h.ok.lo, h.ok.hi, h.ok.d0, h.ok.d1⟩, hA⟩
theorem range_no {s : ByteArray} {xl : List Sp} {r : Rs} : rangeF s (xl, false) r = .ok xl r := rfl
theorem range_other {s : ByteArray} {xl : List Sp} {r : Rs} {c : Int} (h : peekF s r = .ok c r) (hc : ¬ c = 45) : rangeF s (xl, true) r = .ok xl r := by
 unfold rangeF
 rw [if_pos rfl, h]
 simp only [Out.on]
 rw [if_neg hc]
theorem range_bad {s : ByteArray} {xl : List Sp} {r : Rs} {a e : Int} (h : peekF s r = .bad a e) : rangeF s (xl, true) r = .bad a e := by
 unfold rangeF
 rw [if_pos rfl, h]; rfl
theorem range_upper {s : ByteArray} {xl : List Sp} {r : Rs} (h : peekF s r = .ok 45 r) : rangeF s (xl, true) r = (upperF s (loOf xl) (skipF 45 r)).on fun hi r => .ok [⟨loOf xl, hi⟩] r := by
 unfold rangeF
 rw [if_pos rfl, h]
 rfl
set_option maxRecDepth 100000 in
set_option maxHeartbeats 4000000 in
theorem rex_class {w : World} {rb : Nat} {s : ByteArray} {r : Rs} (h : RxW w rb s r w) :
  Calls Tryz.prog 166 #[.pointer (some ⟨rb, 0, none⟩)] w (RxPost w rb s (PartV w 1) (classF s r)) := by
 have hC0 : ClsAt w rb s false (.slice none 0 0) [] r (w.alloc (.cells #[.int .i64 0, .slice none 0 0, .bool false, .bool false, .slice none 0 0, .int .i32 0] 210)) :=
  ⟨h.below (balloc (Below.refl _ _) _), h.rd.lt, blk_new _ _, ⟨rfl, .inl ⟨rfl, rfl⟩⟩⟩
 have hpeek := hC0.rx.peek
 have hef : classF s r = (peekF s r).on fun c r => (classLoop s (s.size + 1) true [] (if c = 94 then skipF 94 r else r)).on fun l r => .ok (.mk 0 l (decide (c = 94)) false [] 0) (moreSz (skipF 93 r)) := rfl
 have HC0 := Lib.hid hC0
 have hlo := h.ok.lo
 cases hp : peekF s r with
 | bad a n =>
  rw [hp] at hpeek hef
  simp only [Out.on] at hef
  rw [hef]
  have HPeek := Lib.hid hpeek
  clear hpeek hp hef h
  go_enter Tryz.func166, Tryz.ntmps166
  go_wp2_with fail
  refine HPeek.out.mono ?_
  rintro e w1 ⟨rfl, hb⟩
  exact ⟨rfl, rfl, HC0.out.rx.apart.then hb⟩
 | ok c r1 =>
  obtain ⟨rfl, hc3⟩ := peek_ok h.ok.lo hp
  rw [hp] at hpeek hef
  simp only [Out.on] at hef
  have HPeek := Lib.hid hpeek
  have HP := Lib.hid hp
  have HRes0 := Lib.hid hef
  generalize classF s r1 = res at *
  have HLo := Lib.hid hlo
  clear hef hpeek hp h hc3 hC0 hlo
  go_enter Tryz.func166, Tryz.ntmps166
  go_wp2_with fail
  generalize w.alloc (.cells #[.int .i64 0, .slice none 0 0, .bool false, .bool false, .slice none 0 0, .int .i32 0] 210) = w0 at *
  refine HPeek.out.mono ?_
  rintro e w1 ⟨rfl, hb⟩
  have HC1 := Lib.hid (HC0.out.below hb)
  clear hb
  go_upto_if 11 with fail
  go_cut [] (fun wx => ClsAt w rb s (decide (c = 94)) (.slice none 0 0) [] (if c = 94 then skipF 94 r1 else r1) wx)
  case first =>
   by_cases h94 : c = 94
   ·have e94 : (c == 94) = true := by simpa using h94
    subst h94
    go_wp2_with fail
    refine (HC1.out.rx.skip HP.out (by decide)).mono ?_
    rintro e w2 ⟨rfl, hW2, hA2⟩
    have HC2 := Lib.hid (HC1.out.turn hW2.rd hA2 hW2.ok)
    have q2 := blk_cell HC2.out.blk 2
    simp at q2
    have f2 : w2.frozen? ⟨w.heap.size, 2, none⟩ = false := free_blk (i := 2) HC2.out.blk
    have HC3 := Lib.hid (cls_but HC2.out)
    clear hW2 hA2
    go_wp2_with fail
    go_meet
    exact HC3.out
   ·have e94 : (c == 94) = false := by simpa using h94
    have HC2 : Hid (ClsAt w rb s (decide (c = 94)) (.slice none 0 0) [] (if c = 94 then skipF 94 r1 else r1) w1) := Lib.hid (by rw [if_neg h94, decide_eq_false h94]; exact HC1.out)
    clear h94
    go_wp2_with fail
    go_meet
    exact HC2.out
  case rest =>
   have HCc := Lib.hid hcut
   have hA0 : 0 ≤ (if c = 94 then skipF 94 r1 else r1).at_ := hcut.rx.ok.lo
   have HA0 := Lib.hid hA0
   generalize (if c = 94 then skipF 94 r1 else r1) = rA at *
   generalize decide (c = 94) = but at *
   obtain ⟨tot, htt⟩ : ∃ tot, classLoop s (s.size + 1) true [] rA = tot := ⟨_, rfl⟩
   rw [htt] at HRes0
   have HRes := HRes0
   have HTt := Lib.hid htt
   clear hcut hA0 htt
   go_wp2_with fail
   go_loopw [4] (fun fv wr => ∃ (n : Nat) (first : Bool) (sv : Value) (acc : List Sp) (r' : Rs), fv = .bool first ∧ 1 ≤ n ∧ (s.size : Int) + 1 ≤ r'.at_ + n ∧ classLoop s n first acc r' = tot ∧ (acc.length : Int) ≤ 4 * r'.at_ ∧ ClsAt w rb s but sv acc r' wr) (fun _ wr => RxM rb wr)
   case atStart => exact ⟨s.size + 1, true, _, [], rA, rfl, by omega, by have := HA0.out; omega, HTt.out, by have := HA0.out; simp; omega, HCc.out⟩
   case round =>
    obtain ⟨n, first, sv, acc, r', rfl, hn, hsz, htot, hacc, hC⟩ := hrel
    have HCr := Lib.hid hC
    have HAcc := Lib.hid hacc
    cases n with
    | zero => omega
    | succ n =>
     have HN : Hid ((s.size : Int) + 1 ≤ r'.at_ + (n + 1)) := Lib.hid (by omega)
     cases first with
     | true =>
      have hbody : ((memberF s r').on fun x r => (rangeF s x r).on fun l r => classLoop s n false (acc ++ l) r) = tot := by rw [← htot]; rfl
      have HBody := Lib.hid hbody
      have HC := HCr
      clear hbody htot hacc hC hn hsz
      go_wp2_with fail
      refine (rex_member (RxW.start HC.out.rx.rd HC.out.rx.tabs HC.out.rx.b2 HC.out.rx.ok HC.out.rx.sz)).mono ?_
      rintro e w3 hpost
      cases hm : memberF s r' with
      | bad a e9 =>
       rw [hm] at hpost
       obtain ⟨rfl, hA⟩ := hpost
       have HFin : Hid (RxPost w rb s (PartV w 1) res (BadE a e9) w3) := Lib.hid (by rw [HRes.out, ← HBody.out, hm]; exact ⟨rfl, HC.out.rx.apart.trans hA (fun _ _ h => h)⟩)
       clear hm hA
       exact ⟨rfl, HFin.out⟩
      | ok x r2 =>
       have hf := member_fwd HC.out.rx.ok hm
       have hl := member_len hm
       have HLt := Lib.hid (member_lt HC.out.rx.ok hm)
       have HM := Lib.hid hm
       rw [hm] at hpost
       obtain ⟨v, rfl, ⟨mv, rfl, hO⟩, hW3⟩ := hpost
       have HC3 := Lib.hid (HC.out.turn hW3.rd hW3.apart hW3.ok)
       have HO3 := Lib.hid hO
       obtain ⟨xl, xb⟩ := x
       simp only at HO3 hl hf
       have HF := Lib.hid hf
       have HL4 := Lib.hid hl
       obtain ⟨Am, cm, rfl⟩ := own_slice HO3.out
       clear hm hW3 hO hf hl
       cases xb with
       | false =>
        have cb := blk_cell HC3.out.blk 1
        simp at cb
        have htail : classLoop s n false (acc ++ xl) r2 = tot := by
         have h7 := HBody.out
         rw [HM.out] at h7
         have h8 : ((rangeF s (xl, false) r2).on fun l r => classLoop s n false (acc ++ l) r) = tot := h7
         rw [range_no] at h8
         exact h8
        have HTail := Lib.hid htail
        have hsrc := sp_src HO3.out
        have HSrc := Lib.hid hsrc
        have hl4 : (xl).length ≤ 4 := HL4.out
        have hfw : r'.at_ + 1 ≤ (r2).at_ := HF.out.1.fwd
        have hlen : (acc.length + (xl).length) * 8 ≤ 140737488355328 := by have := HAcc.out; have := HC3.out.rx.ok.hi; have := HC3.out.rx.sz; omega
        have hacc2 : (((acc ++ xl).length : Nat) : Int) ≤ 4 * (r2).at_ := by rw [List.length_append]; have := HAcc.out; omega
        have HAcc2 := Lib.hid hacc2
        have hnn : 1 ≤ n ∧ (s.size : Int) + 1 ≤ (r2).at_ + n := by have := HN.out; have := HLt.out; omega
        have HNn := Lib.hid hnn
        have HFw := Lib.hid hfw
        clear htail hsrc hl4 hfw hacc2 hnn
        go_wp2_with (at_builtin; refine wpList_app2 (w0 := w3) (w.heap.size + 1) rfl _ _ 208 221 _ 2 8 (xl).length ((xl).flatMap Sp.enc) rfl Tryz.underlying208 info_sp rfl (by decide) (by decide) sv (.slice Am xl.length cm) acc.length (acc.flatMap Sp.enc) ?hs ?hxe ?hx HC3.out.own (Below.refl _ _) HC3.out.size hlen ?_)
        try case hs => rfl
        try case hxe => rfl
        case hx => exact HSrc.out
        intro v5 w5 hO5 hB5 hg5 hat5
        have hO5' : w5.ownsRow (w.heap.size + 1) 221 2 v5 (acc.length + (xl).length) (acc.flatMap Sp.enc ++ (xl).flatMap Sp.enc) := by simpa using hO5
        have HC5 := Lib.hid (cls_push HC3.out hO5' hB5)
        obtain ⟨A5, c5, rfl⟩ := own_slice hO5
        have hb5 := (hB5.block w.heap.size (by omega)).trans HC3.out.blk
        have q1 := blk_cell hb5 1
        simp at q1
        have f1 : w5.frozen? ⟨w.heap.size, 1, none⟩ = false := free_blk (i := 1) hb5
        clear hO5 hO5' hB5 hg5 hat5 hb5 cb
        go_wp2_with fail
        go_roundw
        case rel => exact ⟨n, false, _, acc ++ xl, r2, rfl, HNn.out.1, HNn.out.2, HTail.out, HAcc2.out, HC5.out⟩
        case measure => exact RxM_lt HCr.out.rx.rd HC5.out.rx.rd HCr.out.rx.ok HC5.out.rx.ok HCr.out.rx.sz HFw.out
       | true =>
        obtain ⟨y, rfl⟩ : ∃ y, xl = [y] := by
         match xl, HF.out.2 rfl with
         | [y], _ => exact ⟨y, rfl⟩
        have hpk2 := HC3.out.rx.peek
        cases hp2 : peekF s r2 with
        | bad a e9 =>
         rw [hp2] at hpk2
         have HPk2 := Lib.hid hpk2
         have HFin : Hid (∀ W, Apart (fun k => k = rb) w W → RxPost w rb s (PartV w 1) res (BadE a e9) W) := Lib.hid (fun W hA => by rw [HRes.out, ← HBody.out, HM.out]; show RxPost w rb s (PartV w 1) (((rangeF s ([y], true) r2).on fun l r => classLoop s n false (acc ++ l) r).on _) _ W; rw [range_bad hp2]; exact ⟨rfl, hA⟩)
         clear hp2 hpk2
         go_wp2_with fail
         refine HPk2.out.mono ?_
         rintro e w4 ⟨rfl, hb4⟩
         exact ⟨rfl, HFin.out _ (HC3.out.rx.apart.then hb4)⟩
        | ok c2 rz =>
         obtain ⟨rfl, -⟩ := peek_ok HC3.out.rx.ok.lo hp2
         rw [hp2] at hpk2
         have HPk2 := Lib.hid hpk2
         have HP2 := Lib.hid hp2
         clear hpk2 hp2
         go_wp2_with fail
         refine HPk2.out.mono ?_
         rintro e w4 ⟨rfl, hb4⟩
         have HC4 := Lib.hid (HC3.out.below hb4)
         have HO4 : Hid (OwnS w4 wr.heap.size (.slice Am [y].length cm) [y]) := Lib.hid (own_below HO3.out hb4)
         clear hb4
         by_cases h45 : c2 = 45
         ·have e45 : (c2 == 45) = true := by simpa using h45
          subst h45
          go_wp2_with fail
          refine (HC4.out.rx.skip HP2.out (by decide)).mono ?_
          rintro e w6 ⟨rfl, hW6, hA6⟩
          have HC6 := Lib.hid (HC4.out.turn hW6.rd hA6 hW6.ok)
          have HO6 : Hid (OwnS w6 wr.heap.size (.slice Am [y].length cm) [y]) := Lib.hid (ownsRow_move HO4.out fun k hk => hA6.block k (ownsRow_blk HO4.out k hk).2 (by have h7 := (ownsRow_blk HO4.out k hk).1; have h8 := HC.out.rx.rd.lt; omega))
          obtain ⟨bm, om, cm2, em, zm⟩ := own_sp1 HO6.out
          injection em with em1 em2 em3
          subst em1; subst em3
          have HC6d := Lib.hid (HC6.out.below (bdrew (Below.refl _ _)))
          have hup := rex_upper y.lo (RxW.start HC6d.out.rx.rd HC6d.out.rx.tabs HC6d.out.rx.b2 HC6d.out.rx.ok HC6d.out.rx.sz)
          have hft := peek_fwd HC3.out.rx.ok HP2.out (by decide)
          cases hu : upperF s y.lo (skipF 45 rz) with
          | bad a e9 =>
           rw [hu] at hup
           have HUp := Lib.hid hup
           have HRg : Hid (rangeF s ([y], true) rz = .bad a e9) := Lib.hid (by rw [range_upper HP2.out, show loOf [y] = y.lo from rfl, hu]; rfl)
           have HFin : Hid (∀ W, Apart (fun k => k = rb) w W → RxPost w rb s (PartV w 1) res (BadE a e9) W) := Lib.hid (fun W hA => by rw [HRes.out, ← HBody.out, HM.out]; show RxPost w rb s (PartV w 1) (((rangeF s ([y], true) rz).on fun l r => classLoop s n false (acc ++ l) r).on _) _ W; rw [HRg.out]; exact ⟨rfl, hA⟩)
           have y1 : w6.drew.cell? ⟨bm, om, none⟩ = some (.int .i32 y.lo) := zm
           clear hup hu hft hW6 hA6
           go_wp2_with fail
           refine wp_region_held_drew (S := fun w' => w'.cell? ⟨bm, om, none⟩ = some (.int .i32 y.lo)) (by kernel_rfl) y1 (fun hHeld => ?_)
           refine wpAnyH_take (i := 0) (oi := ⟨some 36, _, _, _, _, _⟩) (v := ?_) rfl (by kernel_rfl) (by kernel_rfl) (by kernel_rfl) (fun _ _ _ h => h) (Or.inl ⟨by rfl, fun w hSw => ?_⟩) (by assumption) ?_
           rotate_left 1
           ·(try dsimp only at hSw); go_simp; try with_reducible rfl
           try simp only [Act.put, List.setIfInBounds_toArray, List.set_cons_zero, List.set_cons_succ]
           refine wpAnyH_take (i := 1) (oi := ⟨some 37, _, _, _, _, _⟩) (v := ?_) rfl (by kernel_rfl) (by kernel_rfl) (by kernel_rfl) (fun _ _ _ h => h) (Or.inl ⟨by rfl, fun w hSw => ?_⟩) (by assumption) ?_
           rotate_left 1
           ·(try dsimp only at hSw); go_simp; try with_reducible rfl
           try simp only [Act.put, List.setIfInBounds_toArray, List.set_cons_zero, List.set_cons_succ]
           refine wpAnyH_take (i := 2) (oi := ⟨some 38, _, _, _, _, _⟩) (v := ?_) rfl (by kernel_rfl) (by kernel_rfl) (by kernel_rfl) (fun _ _ _ h => h) (Or.inl ⟨by rfl, fun w hSw => ?_⟩) (by assumption) ?_
           rotate_left 1
           ·(try dsimp only at hSw); go_simp; try with_reducible rfl
           try simp only [Act.put, List.setIfInBounds_toArray, List.set_cons_zero, List.set_cons_succ]
           refine wpAnyH_take (i := 3) (oi := ⟨some 39, _, _, _, _, _⟩) (v := ?_) rfl (by kernel_rfl) (by kernel_rfl) (by kernel_rfl) (fun _ _ _ h => h) (Or.inl ⟨by rfl, fun w hSw => ?_⟩) (by assumption) ?_
           rotate_left 1
           ·(try dsimp only at hSw); go_simp; try with_reducible rfl
           try simp only [Act.put, List.setIfInBounds_toArray, List.set_cons_zero, List.set_cons_succ]
           refine wpAnyH_take (i := 4) (oi := ⟨some 40, _, _, _, _, _⟩) (v := ?_) rfl (by kernel_rfl) (by kernel_rfl) (by kernel_rfl) (fun _ _ _ h => h) (Or.inl ⟨by rfl, fun w hSw => ?_⟩) (by assumption) ?_
           rotate_left 1
           ·(try dsimp only at hSw); go_simp; try with_reducible rfl
           try simp only [Act.put, List.setIfInBounds_toArray, List.set_cons_zero, List.set_cons_succ]
           refine wpAnyH_take (i := 5) (oi := ⟨some 41, _, _, _, _, _⟩) (v := ?_) rfl (by kernel_rfl) (by kernel_rfl) (by kernel_rfl) (fun _ _ _ h => h) (Or.inl ⟨by rfl, fun w hSw => ?_⟩) (by assumption) ?_
           rotate_left 1
           ·(try dsimp only at hSw); go_simp; try with_reducible rfl
           try simp only [Act.put, List.setIfInBounds_toArray, List.set_cons_zero, List.set_cons_succ]
           refine wpAnyH_take (i := 6) (oi := ⟨some 42, _, _, _, _, _⟩) (v := ?_) rfl (by kernel_rfl) (by kernel_rfl) (by kernel_rfl) (fun _ _ _ h => h) (Or.inl ⟨by rfl, fun w hSw => ?_⟩) (by assumption) ?_
           rotate_left 1
           ·(try dsimp only at hSw); go_simp; try with_reducible rfl
           try simp only [Act.put, List.setIfInBounds_toArray, List.set_cons_zero, List.set_cons_succ]
           refine wpAnyH_take (i := 7) (oi := ⟨some 43, _, _, _, _, _⟩) (v := ?_) rfl (by kernel_rfl) (by kernel_rfl) (by kernel_rfl) (fun _ _ _ h => h) (Or.inl ⟨by rfl, fun w hSw => ?_⟩) (by assumption) ?_
           rotate_left 1
           ·(try dsimp only at hSw); go_simp; try with_reducible rfl
           try simp only [Act.put, List.setIfInBounds_toArray, List.set_cons_zero, List.set_cons_succ]
           refine wpAnyH_take (i := 8) (oi := ⟨some 44, _, _, _, _, _⟩) (v := ?_) rfl (by kernel_rfl) (by kernel_rfl) (by kernel_rfl) (fun _ _ _ h => h) (Or.inl ⟨by rfl, fun w hSw => ?_⟩) (by assumption) ?_
           rotate_left 1
           ·(try dsimp only at hSw); go_simp; try with_reducible rfl
           try simp only [Act.put, List.setIfInBounds_toArray, List.set_cons_zero, List.set_cons_succ]
           refine wpAnyH_ready (rs := [9]) (by kernel_rfl) (by simp) ?_
           refine AllReadyH.cons (o := ⟨some 45, _, _, _, _, _⟩) rfl (fun K hK => ?_) AllReadyH.nil
           go_simp
           go_at_call 171
           refine HUp.out.mono ?_
           rintro e w7 ⟨rfl, hA7⟩
           exact ⟨rfl, HFin.out _ (HC6d.out.rx.apart.trans hA7 (fun _ _ h => h))⟩
          | ok hi r4 =>
           rw [hu] at hup
           have HUp := Lib.hid hup
           have huf := upper_fwd hft.ok hu
           have hfw9 : r'.at_ + 1 ≤ r4.at_ := by have := HF.out.1.fwd; have := hft.fwd; have := huf.fwd; omega
           have HFw9 := Lib.hid hfw9
           have HRg : Hid (rangeF s ([y], true) rz = .ok [⟨y.lo, hi⟩] r4) := Lib.hid (by rw [range_upper HP2.out, show loOf [y] = y.lo from rfl, hu]; rfl)
           have y1 : w6.drew.cell? ⟨bm, om, none⟩ = some (.int .i32 y.lo) := zm
           have hbl : bm < w6.heap.size := World.block_lt_of_cell? w6 ⟨bm, om, none⟩ zm
           have Nb : Hid (¬ bm = rb) := Lib.hid (by have h7 := (ownsRow_blk HO6.out bm rfl).1; have h8 := HC.out.rx.rd.lt; omega)
           clear hup hu hft huf hfw9 hW6 hA6
           go_wp2_with fail
           go_region_held3 (fun w' => w'.cell? ⟨bm, om, none⟩ = some (.int .i32 y.lo)) (first | exact y1 | exact t1 | exact later (w1 := w7.alloc _) (balloc (Below.refl _ _) _) t1)
            (first | (go_at_call 171; refine HUp.out.mono ?_; rintro e w7 ⟨v7, rfl, rfl, hW7⟩; have t1 := hW7.apart.cell Nb.out y1))
           have HC8 := Lib.hid ((HC6d.out.turn hW7.rd hW7.apart hW7.ok).below (balloc (Below.refl _ _) (.cells #[.int .i32 y.lo, .int .i32 hi] 221)))
           have hO8 : OwnS (w7.alloc (.cells #[.int .i32 y.lo, .int .i32 hi] 221)) w7.heap.size (.slice (some ⟨w7.heap.size, 0, none⟩) 1 1) [⟨y.lo, hi⟩] := own_new (n := 1) (sz := 2) rfl (by decide)
           have HO8 := Lib.hid hO8
           clear hW7 t1 y1 hO8
           have cb := blk_cell HC8.out.blk 1
           simp at cb
           have htail : classLoop s n false (acc ++ [(⟨y.lo, hi⟩ : Sp)]) r4 = tot := by
            have h7 := HBody.out
            rw [HM.out] at h7
            have h8 : ((rangeF s ([y], true) rz).on fun l r => classLoop s n false (acc ++ l) r) = tot := h7
            rw [HRg.out] at h8
            exact h8
           have HTail := Lib.hid htail
           have hsrc := sp_src HO8.out
           have HSrc := Lib.hid hsrc
           have hl4 : ([(⟨y.lo, hi⟩ : Sp)]).length ≤ 4 := (by simp)
           have hfw : r'.at_ + 1 ≤ (r4).at_ := HFw9.out
           have hlen : (acc.length + ([(⟨y.lo, hi⟩ : Sp)]).length) * 8 ≤ 140737488355328 := by have := HAcc.out; have := HC8.out.rx.ok.hi; have := HC8.out.rx.sz; omega
           have hacc2 : (((acc ++ [(⟨y.lo, hi⟩ : Sp)]).length : Nat) : Int) ≤ 4 * (r4).at_ := by rw [List.length_append]; have := HAcc.out; omega
           have HAcc2 := Lib.hid hacc2
           have hnn : 1 ≤ n ∧ (s.size : Int) + 1 ≤ (r4).at_ + n := by have := HN.out; have := HLt.out; omega
           have HNn := Lib.hid hnn
           have HFw := Lib.hid hfw
           clear htail hsrc hl4 hfw hacc2 hnn
           go_wp2_with (at_builtin; refine wpList_app2 (w0 := w7.alloc (.cells #[.int .i32 y.lo, .int .i32 hi] 221)) (w.heap.size + 1) rfl _ _ 208 221 _ 2 8 ([(⟨y.lo, hi⟩ : Sp)]).length (([(⟨y.lo, hi⟩ : Sp)]).flatMap Sp.enc) rfl Tryz.underlying208 info_sp rfl (by decide) (by decide) sv (.slice (some ⟨w7.heap.size, 0, none⟩) 1 1) acc.length (acc.flatMap Sp.enc) ?hs ?hxe ?hx HC8.out.own (Below.refl _ _) HC8.out.size hlen ?_)
           try case hs => rfl
           try case hxe => rfl
           case hx => exact HSrc.out
           intro v5 w5 hO5 hB5 hg5 hat5
           have hO5' : w5.ownsRow (w.heap.size + 1) 221 2 v5 (acc.length + ([(⟨y.lo, hi⟩ : Sp)]).length) (acc.flatMap Sp.enc ++ ([(⟨y.lo, hi⟩ : Sp)]).flatMap Sp.enc) := by simpa using hO5
           have HC5 := Lib.hid (cls_push HC8.out hO5' hB5)
           obtain ⟨A5, c5, rfl⟩ := own_slice hO5
           have hb5 := (hB5.block w.heap.size (by omega)).trans HC8.out.blk
           have q1 := blk_cell hb5 1
           simp at q1
           have f1 : w5.frozen? ⟨w.heap.size, 1, none⟩ = false := free_blk (i := 1) hb5
           clear hO5 hO5' hB5 hg5 hat5 hb5 cb
           go_wp2_with fail
           go_roundw
           case rel => exact ⟨n, false, _, acc ++ [(⟨y.lo, hi⟩ : Sp)], r4, rfl, HNn.out.1, HNn.out.2, HTail.out, HAcc2.out, HC5.out⟩
           case measure => exact RxM_lt HCr.out.rx.rd HC5.out.rx.rd HCr.out.rx.ok HC5.out.rx.ok HCr.out.rx.sz HFw.out
         ·have e45 : (c2 == 45) = false := by simpa using h45
          have HNo := Lib.hid h45
          clear h45
          have cb := blk_cell HC4.out.blk 1
          simp at cb
          have htail : classLoop s n false (acc ++ [y]) rz = tot := by
           have h7 := HBody.out
           rw [HM.out] at h7
           have h8 : ((rangeF s ([y], true) rz).on fun l r => classLoop s n false (acc ++ l) r) = tot := h7
           rw [range_other HP2.out HNo.out] at h8
           exact h8
          have HTail := Lib.hid htail
          have hsrc := sp_src HO4.out
          have HSrc := Lib.hid hsrc
          have hl4 : ([y]).length ≤ 4 := HL4.out
          have hfw : r'.at_ + 1 ≤ (rz).at_ := HF.out.1.fwd
          have hlen : (acc.length + ([y]).length) * 8 ≤ 140737488355328 := by have := HAcc.out; have := HC4.out.rx.ok.hi; have := HC4.out.rx.sz; omega
          have hacc2 : (((acc ++ [y]).length : Nat) : Int) ≤ 4 * (rz).at_ := by rw [List.length_append]; have := HAcc.out; omega
          have HAcc2 := Lib.hid hacc2
          have hnn : 1 ≤ n ∧ (s.size : Int) + 1 ≤ (rz).at_ + n := by have := HN.out; have := HLt.out; omega
          have HNn := Lib.hid hnn
          have HFw := Lib.hid hfw
          clear htail hsrc hl4 hfw hacc2 hnn
          go_wp2_with (at_builtin; refine wpList_app2 (w0 := w4) (w.heap.size + 1) rfl _ _ 208 221 _ 2 8 ([y]).length (([y]).flatMap Sp.enc) rfl Tryz.underlying208 info_sp rfl (by decide) (by decide) sv (.slice Am 1 cm) acc.length (acc.flatMap Sp.enc) ?hs ?hxe ?hx HC4.out.own (Below.refl _ _) HC4.out.size hlen ?_)
          try case hs => rfl
          try case hxe => rfl
          case hx => exact HSrc.out
          intro v5 w5 hO5 hB5 hg5 hat5
          have hO5' : w5.ownsRow (w.heap.size + 1) 221 2 v5 (acc.length + ([y]).length) (acc.flatMap Sp.enc ++ ([y]).flatMap Sp.enc) := by simpa using hO5
          have HC5 := Lib.hid (cls_push HC4.out hO5' hB5)
          obtain ⟨A5, c5, rfl⟩ := own_slice hO5
          have hb5 := (hB5.block w.heap.size (by omega)).trans HC4.out.blk
          have q1 := blk_cell hb5 1
          simp at q1
          have f1 : w5.frozen? ⟨w.heap.size, 1, none⟩ = false := free_blk (i := 1) hb5
          clear hO5 hO5' hB5 hg5 hat5 hb5 cb
          go_wp2_with fail
          go_roundw
          case rel => exact ⟨n, false, _, acc ++ [y], rz, rfl, HNn.out.1, HNn.out.2, HTail.out, HAcc2.out, HC5.out⟩
          case measure => exact RxM_lt HCr.out.rx.rd HC5.out.rx.rd HCr.out.rx.ok HC5.out.rx.ok HCr.out.rx.sz HFw.out
     | false =>
      have hpk := hC.rx.peek
      have htot2 : ((peekF s r').on fun c r => if c = 93 then .ok acc r else (memberF s r).on fun x r => (rangeF s x r).on fun l r => classLoop s n false (acc ++ l) r) = tot := by rw [← htot]; rfl
      cases hpe : peekF s r' with
      | bad a e9 =>
       rw [hpe] at hpk htot2
       simp only [Out.on] at htot2
       have HPk := Lib.hid hpk
       have HFin : Hid (∀ W, Apart (fun k => k = rb) w W → RxPost w rb s (PartV w 1) res (BadE a e9) W) := Lib.hid (fun W hA => by rw [HRes.out, ← htot2]; exact ⟨rfl, hA⟩)
       clear hpk htot2 hpe htot hacc hC hn hsz
       go_wp2_with fail
       refine HPk.out.mono ?_
       rintro e w2 ⟨rfl, hb2⟩
       exact ⟨rfl, HFin.out _ (HCr.out.rx.apart.then hb2)⟩
      | ok c1 r9 =>
       obtain ⟨rfl, -⟩ := peek_ok hC.rx.ok.lo hpe
       rw [hpe] at hpk htot2
       have htot2 : (if c1 = 93 then Out.ok acc r9 else (memberF s r9).on fun x r => (rangeF s x r).on fun l r => classLoop s n false (acc ++ l) r) = tot := htot2
       have HPk := Lib.hid hpk
       have HPe := Lib.hid hpe
       by_cases h93 : c1 = 93
       ·have e93 : (c1 != 93) = false := by simpa using h93
        rw [if_pos h93] at htot2
        subst h93
        have HT2 := Lib.hid htot2
        clear hpk htot2 hpe htot hacc hC hn hsz
        go_wp2_with fail
        refine HPk.out.mono ?_
        rintro e w2 ⟨rfl, hb2⟩
        have HC2 := Lib.hid (HCr.out.below hb2)
        clear hb2
        go_wp2_with fail
        refine (HC2.out.rx.skip HPe.out (by decide)).mono ?_
        rintro e w4 ⟨rfl, hW4, hA4⟩
        have HW4 := Lib.hid hW4
        have HA4 := Lib.hid hA4
        obtain ⟨c0, c1, c2, c3⟩ := hW4.rd.cells
        have f3 : w4.frozen? ⟨rb, 3, none⟩ = false := free_blk (i := 3) hW4.rd
        have hsz4 : (skipF 93 r9).size = r9.size := rfl
        rw [hsz4] at c3
        have hfin : RxPost w rb s (PartV w 1) res (.returned (.pointer (some ⟨w.heap.size, 0, none⟩))) (w4.setCell ⟨rb, 3, none⟩ (.int .i64 (wrap64 (r9.size + 1)))) := by
         obtain ⟨g1, g2⟩ := rx_size hW4
         rw [HRes.out, ← HT2.out]
         exact ⟨_, rfl, ⟨_, rfl, cls_end HC2.out (hA4.trans g2 (fun _ _ h => h))⟩, g1⟩
        have HFin := Lib.hid hfin
        clear hW4 hA4 hfin c0 c1 c2 hsz4
        go_wp2_with fail
        go_ret
        exact HFin.out
       ·have e93 : (c1 != 93) = true := by simpa using h93
        rw [if_neg h93] at htot2
        have HBody := Lib.hid htot2
        clear hpk htot2 hpe htot hacc hC hn hsz h93
        go_wp2_with fail
        refine HPk.out.mono ?_
        rintro e w2 ⟨rfl, hb2⟩
        have HC := Lib.hid (HCr.out.below hb2)
        clear hb2
        go_wp2_with fail
        refine (rex_member (RxW.start HC.out.rx.rd HC.out.rx.tabs HC.out.rx.b2 HC.out.rx.ok HC.out.rx.sz)).mono ?_
        rintro e w3 hpost
        cases hm : memberF s r9 with
        | bad a e9 =>
         rw [hm] at hpost
         obtain ⟨rfl, hA⟩ := hpost
         have HFin : Hid (RxPost w rb s (PartV w 1) res (BadE a e9) w3) := Lib.hid (by rw [HRes.out, ← HBody.out, hm]; exact ⟨rfl, HC.out.rx.apart.trans hA (fun _ _ h => h)⟩)
         clear hm hA
         exact ⟨rfl, HFin.out⟩
        | ok x r2 =>
         have hf := member_fwd HC.out.rx.ok hm
         have hl := member_len hm
         have HLt := Lib.hid (member_lt HC.out.rx.ok hm)
         have HM := Lib.hid hm
         rw [hm] at hpost
         obtain ⟨v, rfl, ⟨mv, rfl, hO⟩, hW3⟩ := hpost
         have HC3 := Lib.hid (HC.out.turn hW3.rd hW3.apart hW3.ok)
         have HO3 := Lib.hid hO
         obtain ⟨xl, xb⟩ := x
         simp only at HO3 hl hf
         have HF := Lib.hid hf
         have HL4 := Lib.hid hl
         obtain ⟨Am, cm, rfl⟩ := own_slice HO3.out
         clear hm hW3 hO hf hl
         cases xb with
         | false =>
          have cb := blk_cell HC3.out.blk 1
          simp at cb
          have htail : classLoop s n false (acc ++ xl) r2 = tot := by
           have h7 := HBody.out
           rw [HM.out] at h7
           have h8 : ((rangeF s (xl, false) r2).on fun l r => classLoop s n false (acc ++ l) r) = tot := h7
           rw [range_no] at h8
           exact h8
          have HTail := Lib.hid htail
          have hsrc := sp_src HO3.out
          have HSrc := Lib.hid hsrc
          have hl4 : (xl).length ≤ 4 := HL4.out
          have hfw : r9.at_ + 1 ≤ (r2).at_ := HF.out.1.fwd
          have hlen : (acc.length + (xl).length) * 8 ≤ 140737488355328 := by have := HAcc.out; have := HC3.out.rx.ok.hi; have := HC3.out.rx.sz; omega
          have hacc2 : (((acc ++ xl).length : Nat) : Int) ≤ 4 * (r2).at_ := by rw [List.length_append]; have := HAcc.out; omega
          have HAcc2 := Lib.hid hacc2
          have hnn : 1 ≤ n ∧ (s.size : Int) + 1 ≤ (r2).at_ + n := by have := HN.out; have := HLt.out; omega
          have HNn := Lib.hid hnn
          have HFw := Lib.hid hfw
          clear htail hsrc hl4 hfw hacc2 hnn
          go_wp2_with (at_builtin; refine wpList_app2 (w0 := w3) (w.heap.size + 1) rfl _ _ 208 221 _ 2 8 (xl).length ((xl).flatMap Sp.enc) rfl Tryz.underlying208 info_sp rfl (by decide) (by decide) sv (.slice Am xl.length cm) acc.length (acc.flatMap Sp.enc) ?hs ?hxe ?hx HC3.out.own (Below.refl _ _) HC3.out.size hlen ?_)
          try case hs => rfl
          try case hxe => rfl
          case hx => exact HSrc.out
          intro v5 w5 hO5 hB5 hg5 hat5
          have hO5' : w5.ownsRow (w.heap.size + 1) 221 2 v5 (acc.length + (xl).length) (acc.flatMap Sp.enc ++ (xl).flatMap Sp.enc) := by simpa using hO5
          have HC5 := Lib.hid (cls_push HC3.out hO5' hB5)
          obtain ⟨A5, c5, rfl⟩ := own_slice hO5
          have hb5 := (hB5.block w.heap.size (by omega)).trans HC3.out.blk
          have q1 := blk_cell hb5 1
          simp at q1
          have f1 : w5.frozen? ⟨w.heap.size, 1, none⟩ = false := free_blk (i := 1) hb5
          clear hO5 hO5' hB5 hg5 hat5 hb5 cb
          go_wp2_with fail
          go_roundw
          case rel => exact ⟨n, false, _, acc ++ xl, r2, rfl, HNn.out.1, HNn.out.2, HTail.out, HAcc2.out, HC5.out⟩
          case measure => exact RxM_lt HCr.out.rx.rd HC5.out.rx.rd HCr.out.rx.ok HC5.out.rx.ok HCr.out.rx.sz HFw.out
         | true =>
          obtain ⟨y, rfl⟩ : ∃ y, xl = [y] := by
           match xl, HF.out.2 rfl with
           | [y], _ => exact ⟨y, rfl⟩
          have hpk2 := HC3.out.rx.peek
          cases hp2 : peekF s r2 with
          | bad a e9 =>
           rw [hp2] at hpk2
           have HPk2 := Lib.hid hpk2
           have HFin : Hid (∀ W, Apart (fun k => k = rb) w W → RxPost w rb s (PartV w 1) res (BadE a e9) W) := Lib.hid (fun W hA => by rw [HRes.out, ← HBody.out, HM.out]; show RxPost w rb s (PartV w 1) (((rangeF s ([y], true) r2).on fun l r => classLoop s n false (acc ++ l) r).on _) _ W; rw [range_bad hp2]; exact ⟨rfl, hA⟩)
           clear hp2 hpk2
           go_wp2_with fail
           refine HPk2.out.mono ?_
           rintro e w4 ⟨rfl, hb4⟩
           exact ⟨rfl, HFin.out _ (HC3.out.rx.apart.then hb4)⟩
          | ok c2 rz =>
           obtain ⟨rfl, -⟩ := peek_ok HC3.out.rx.ok.lo hp2
           rw [hp2] at hpk2
           have HPk2 := Lib.hid hpk2
           have HP2 := Lib.hid hp2
           clear hpk2 hp2
           go_wp2_with fail
           refine HPk2.out.mono ?_
           rintro e w4 ⟨rfl, hb4⟩
           have HC4 := Lib.hid (HC3.out.below hb4)
           have HO4 : Hid (OwnS w4 w2.heap.size (.slice Am [y].length cm) [y]) := Lib.hid (own_below HO3.out hb4)
           clear hb4
           by_cases h45 : c2 = 45
           ·have e45 : (c2 == 45) = true := by simpa using h45
            subst h45
            go_wp2_with fail
            refine (HC4.out.rx.skip HP2.out (by decide)).mono ?_
            rintro e w6 ⟨rfl, hW6, hA6⟩
            have HC6 := Lib.hid (HC4.out.turn hW6.rd hA6 hW6.ok)
            have HO6 : Hid (OwnS w6 w2.heap.size (.slice Am [y].length cm) [y]) := Lib.hid (ownsRow_move HO4.out fun k hk => hA6.block k (ownsRow_blk HO4.out k hk).2 (by have h7 := (ownsRow_blk HO4.out k hk).1; have h8 := HC.out.rx.rd.lt; omega))
            obtain ⟨bm, om, cm2, em, zm⟩ := own_sp1 HO6.out
            injection em with em1 em2 em3
            subst em1; subst em3
            have HC6d := Lib.hid (HC6.out.below (bdrew (Below.refl _ _)))
            have hup := rex_upper y.lo (RxW.start HC6d.out.rx.rd HC6d.out.rx.tabs HC6d.out.rx.b2 HC6d.out.rx.ok HC6d.out.rx.sz)
            have hft := peek_fwd HC3.out.rx.ok HP2.out (by decide)
            cases hu : upperF s y.lo (skipF 45 rz) with
            | bad a e9 =>
             rw [hu] at hup
             have HUp := Lib.hid hup
             have HRg : Hid (rangeF s ([y], true) rz = .bad a e9) := Lib.hid (by rw [range_upper HP2.out, show loOf [y] = y.lo from rfl, hu]; rfl)
             have HFin : Hid (∀ W, Apart (fun k => k = rb) w W → RxPost w rb s (PartV w 1) res (BadE a e9) W) := Lib.hid (fun W hA => by rw [HRes.out, ← HBody.out, HM.out]; show RxPost w rb s (PartV w 1) (((rangeF s ([y], true) rz).on fun l r => classLoop s n false (acc ++ l) r).on _) _ W; rw [HRg.out]; exact ⟨rfl, hA⟩)
             have y1 : w6.drew.cell? ⟨bm, om, none⟩ = some (.int .i32 y.lo) := zm
             clear hup hu hft hW6 hA6
             go_wp2_with fail
             refine wp_region_held_drew (S := fun w' => w'.cell? ⟨bm, om, none⟩ = some (.int .i32 y.lo)) (by kernel_rfl) y1 (fun hHeld => ?_)
             refine wpAnyH_take (i := 0) (oi := ⟨some 36, _, _, _, _, _⟩) (v := ?_) rfl (by kernel_rfl) (by kernel_rfl) (by kernel_rfl) (fun _ _ _ h => h) (Or.inl ⟨by rfl, fun w hSw => ?_⟩) (by assumption) ?_
             rotate_left 1
             ·(try dsimp only at hSw); go_simp; try with_reducible rfl
             try simp only [Act.put, List.setIfInBounds_toArray, List.set_cons_zero, List.set_cons_succ]
             refine wpAnyH_take (i := 1) (oi := ⟨some 37, _, _, _, _, _⟩) (v := ?_) rfl (by kernel_rfl) (by kernel_rfl) (by kernel_rfl) (fun _ _ _ h => h) (Or.inl ⟨by rfl, fun w hSw => ?_⟩) (by assumption) ?_
             rotate_left 1
             ·(try dsimp only at hSw); go_simp; try with_reducible rfl
             try simp only [Act.put, List.setIfInBounds_toArray, List.set_cons_zero, List.set_cons_succ]
             refine wpAnyH_take (i := 2) (oi := ⟨some 38, _, _, _, _, _⟩) (v := ?_) rfl (by kernel_rfl) (by kernel_rfl) (by kernel_rfl) (fun _ _ _ h => h) (Or.inl ⟨by rfl, fun w hSw => ?_⟩) (by assumption) ?_
             rotate_left 1
             ·(try dsimp only at hSw); go_simp; try with_reducible rfl
             try simp only [Act.put, List.setIfInBounds_toArray, List.set_cons_zero, List.set_cons_succ]
             refine wpAnyH_take (i := 3) (oi := ⟨some 39, _, _, _, _, _⟩) (v := ?_) rfl (by kernel_rfl) (by kernel_rfl) (by kernel_rfl) (fun _ _ _ h => h) (Or.inl ⟨by rfl, fun w hSw => ?_⟩) (by assumption) ?_
             rotate_left 1
             ·(try dsimp only at hSw); go_simp; try with_reducible rfl
             try simp only [Act.put, List.setIfInBounds_toArray, List.set_cons_zero, List.set_cons_succ]
             refine wpAnyH_take (i := 4) (oi := ⟨some 40, _, _, _, _, _⟩) (v := ?_) rfl (by kernel_rfl) (by kernel_rfl) (by kernel_rfl) (fun _ _ _ h => h) (Or.inl ⟨by rfl, fun w hSw => ?_⟩) (by assumption) ?_
             rotate_left 1
             ·(try dsimp only at hSw); go_simp; try with_reducible rfl
             try simp only [Act.put, List.setIfInBounds_toArray, List.set_cons_zero, List.set_cons_succ]
             refine wpAnyH_take (i := 5) (oi := ⟨some 41, _, _, _, _, _⟩) (v := ?_) rfl (by kernel_rfl) (by kernel_rfl) (by kernel_rfl) (fun _ _ _ h => h) (Or.inl ⟨by rfl, fun w hSw => ?_⟩) (by assumption) ?_
             rotate_left 1
             ·(try dsimp only at hSw); go_simp; try with_reducible rfl
             try simp only [Act.put, List.setIfInBounds_toArray, List.set_cons_zero, List.set_cons_succ]
             refine wpAnyH_take (i := 6) (oi := ⟨some 42, _, _, _, _, _⟩) (v := ?_) rfl (by kernel_rfl) (by kernel_rfl) (by kernel_rfl) (fun _ _ _ h => h) (Or.inl ⟨by rfl, fun w hSw => ?_⟩) (by assumption) ?_
             rotate_left 1
             ·(try dsimp only at hSw); go_simp; try with_reducible rfl
             try simp only [Act.put, List.setIfInBounds_toArray, List.set_cons_zero, List.set_cons_succ]
             refine wpAnyH_take (i := 7) (oi := ⟨some 43, _, _, _, _, _⟩) (v := ?_) rfl (by kernel_rfl) (by kernel_rfl) (by kernel_rfl) (fun _ _ _ h => h) (Or.inl ⟨by rfl, fun w hSw => ?_⟩) (by assumption) ?_
             rotate_left 1
             ·(try dsimp only at hSw); go_simp; try with_reducible rfl
             try simp only [Act.put, List.setIfInBounds_toArray, List.set_cons_zero, List.set_cons_succ]
             refine wpAnyH_take (i := 8) (oi := ⟨some 44, _, _, _, _, _⟩) (v := ?_) rfl (by kernel_rfl) (by kernel_rfl) (by kernel_rfl) (fun _ _ _ h => h) (Or.inl ⟨by rfl, fun w hSw => ?_⟩) (by assumption) ?_
             rotate_left 1
             ·(try dsimp only at hSw); go_simp; try with_reducible rfl
             try simp only [Act.put, List.setIfInBounds_toArray, List.set_cons_zero, List.set_cons_succ]
             refine wpAnyH_ready (rs := [9]) (by kernel_rfl) (by simp) ?_
             refine AllReadyH.cons (o := ⟨some 45, _, _, _, _, _⟩) rfl (fun K hK => ?_) AllReadyH.nil
             go_simp
             go_at_call 171
             refine HUp.out.mono ?_
             rintro e w7 ⟨rfl, hA7⟩
             exact ⟨rfl, HFin.out _ (HC6d.out.rx.apart.trans hA7 (fun _ _ h => h))⟩
            | ok hi r4 =>
             rw [hu] at hup
             have HUp := Lib.hid hup
             have huf := upper_fwd hft.ok hu
             have hfw9 : r9.at_ + 1 ≤ r4.at_ := by have := HF.out.1.fwd; have := hft.fwd; have := huf.fwd; omega
             have HFw9 := Lib.hid hfw9
             have HRg : Hid (rangeF s ([y], true) rz = .ok [⟨y.lo, hi⟩] r4) := Lib.hid (by rw [range_upper HP2.out, show loOf [y] = y.lo from rfl, hu]; rfl)
             have y1 : w6.drew.cell? ⟨bm, om, none⟩ = some (.int .i32 y.lo) := zm
             have hbl : bm < w6.heap.size := World.block_lt_of_cell? w6 ⟨bm, om, none⟩ zm
             have Nb : Hid (¬ bm = rb) := Lib.hid (by have h7 := (ownsRow_blk HO6.out bm rfl).1; have h8 := HC.out.rx.rd.lt; omega)
             clear hup hu hft huf hfw9 hW6 hA6
             go_wp2_with fail
             go_region_held3 (fun w' => w'.cell? ⟨bm, om, none⟩ = some (.int .i32 y.lo)) (first | exact y1 | exact t1 | exact later (w1 := w7.alloc _) (balloc (Below.refl _ _) _) t1)
              (first | (go_at_call 171; refine HUp.out.mono ?_; rintro e w7 ⟨v7, rfl, rfl, hW7⟩; have t1 := hW7.apart.cell Nb.out y1))
             have HC8 := Lib.hid ((HC6d.out.turn hW7.rd hW7.apart hW7.ok).below (balloc (Below.refl _ _) (.cells #[.int .i32 y.lo, .int .i32 hi] 221)))
             have hO8 : OwnS (w7.alloc (.cells #[.int .i32 y.lo, .int .i32 hi] 221)) w7.heap.size (.slice (some ⟨w7.heap.size, 0, none⟩) 1 1) [⟨y.lo, hi⟩] := own_new (n := 1) (sz := 2) rfl (by decide)
             have HO8 := Lib.hid hO8
             clear hW7 t1 y1 hO8
             have cb := blk_cell HC8.out.blk 1
             simp at cb
             have htail : classLoop s n false (acc ++ [(⟨y.lo, hi⟩ : Sp)]) r4 = tot := by
              have h7 := HBody.out
              rw [HM.out] at h7
              have h8 : ((rangeF s ([y], true) rz).on fun l r => classLoop s n false (acc ++ l) r) = tot := h7
              rw [HRg.out] at h8
              exact h8
             have HTail := Lib.hid htail
             have hsrc := sp_src HO8.out
             have HSrc := Lib.hid hsrc
             have hl4 : ([(⟨y.lo, hi⟩ : Sp)]).length ≤ 4 := (by simp)
             have hfw : r9.at_ + 1 ≤ (r4).at_ := HFw9.out
             have hlen : (acc.length + ([(⟨y.lo, hi⟩ : Sp)]).length) * 8 ≤ 140737488355328 := by have := HAcc.out; have := HC8.out.rx.ok.hi; have := HC8.out.rx.sz; omega
             have hacc2 : (((acc ++ [(⟨y.lo, hi⟩ : Sp)]).length : Nat) : Int) ≤ 4 * (r4).at_ := by rw [List.length_append]; have := HAcc.out; omega
             have HAcc2 := Lib.hid hacc2
             have hnn : 1 ≤ n ∧ (s.size : Int) + 1 ≤ (r4).at_ + n := by have := HN.out; have := HLt.out; omega
             have HNn := Lib.hid hnn
             have HFw := Lib.hid hfw
             clear htail hsrc hl4 hfw hacc2 hnn
             go_wp2_with (at_builtin; refine wpList_app2 (w0 := w7.alloc (.cells #[.int .i32 y.lo, .int .i32 hi] 221)) (w.heap.size + 1) rfl _ _ 208 221 _ 2 8 ([(⟨y.lo, hi⟩ : Sp)]).length (([(⟨y.lo, hi⟩ : Sp)]).flatMap Sp.enc) rfl Tryz.underlying208 info_sp rfl (by decide) (by decide) sv (.slice (some ⟨w7.heap.size, 0, none⟩) 1 1) acc.length (acc.flatMap Sp.enc) ?hs ?hxe ?hx HC8.out.own (Below.refl _ _) HC8.out.size hlen ?_)
             try case hs => rfl
             try case hxe => rfl
             case hx => exact HSrc.out
             intro v5 w5 hO5 hB5 hg5 hat5
             have hO5' : w5.ownsRow (w.heap.size + 1) 221 2 v5 (acc.length + ([(⟨y.lo, hi⟩ : Sp)]).length) (acc.flatMap Sp.enc ++ ([(⟨y.lo, hi⟩ : Sp)]).flatMap Sp.enc) := by simpa using hO5
             have HC5 := Lib.hid (cls_push HC8.out hO5' hB5)
             obtain ⟨A5, c5, rfl⟩ := own_slice hO5
             have hb5 := (hB5.block w.heap.size (by omega)).trans HC8.out.blk
             have q1 := blk_cell hb5 1
             simp at q1
             have f1 : w5.frozen? ⟨w.heap.size, 1, none⟩ = false := free_blk (i := 1) hb5
             clear hO5 hO5' hB5 hg5 hat5 hb5 cb
             go_wp2_with fail
             go_roundw
             case rel => exact ⟨n, false, _, acc ++ [(⟨y.lo, hi⟩ : Sp)], r4, rfl, HNn.out.1, HNn.out.2, HTail.out, HAcc2.out, HC5.out⟩
             case measure => exact RxM_lt HCr.out.rx.rd HC5.out.rx.rd HCr.out.rx.ok HC5.out.rx.ok HCr.out.rx.sz HFw.out
           ·have e45 : (c2 == 45) = false := by simpa using h45
            have HNo := Lib.hid h45
            clear h45
            have cb := blk_cell HC4.out.blk 1
            simp at cb
            have htail : classLoop s n false (acc ++ [y]) rz = tot := by
             have h7 := HBody.out
             rw [HM.out] at h7
             have h8 : ((rangeF s ([y], true) rz).on fun l r => classLoop s n false (acc ++ l) r) = tot := h7
             rw [range_other HP2.out HNo.out] at h8
             exact h8
            have HTail := Lib.hid htail
            have hsrc := sp_src HO4.out
            have HSrc := Lib.hid hsrc
            have hl4 : ([y]).length ≤ 4 := HL4.out
            have hfw : r9.at_ + 1 ≤ (rz).at_ := HF.out.1.fwd
            have hlen : (acc.length + ([y]).length) * 8 ≤ 140737488355328 := by have := HAcc.out; have := HC4.out.rx.ok.hi; have := HC4.out.rx.sz; omega
            have hacc2 : (((acc ++ [y]).length : Nat) : Int) ≤ 4 * (rz).at_ := by rw [List.length_append]; have := HAcc.out; omega
            have HAcc2 := Lib.hid hacc2
            have hnn : 1 ≤ n ∧ (s.size : Int) + 1 ≤ (rz).at_ + n := by have := HN.out; have := HLt.out; omega
            have HNn := Lib.hid hnn
            have HFw := Lib.hid hfw
            clear htail hsrc hl4 hfw hacc2 hnn
            go_wp2_with (at_builtin; refine wpList_app2 (w0 := w4) (w.heap.size + 1) rfl _ _ 208 221 _ 2 8 ([y]).length (([y]).flatMap Sp.enc) rfl Tryz.underlying208 info_sp rfl (by decide) (by decide) sv (.slice Am 1 cm) acc.length (acc.flatMap Sp.enc) ?hs ?hxe ?hx HC4.out.own (Below.refl _ _) HC4.out.size hlen ?_)
            try case hs => rfl
            try case hxe => rfl
            case hx => exact HSrc.out
            intro v5 w5 hO5 hB5 hg5 hat5
            have hO5' : w5.ownsRow (w.heap.size + 1) 221 2 v5 (acc.length + ([y]).length) (acc.flatMap Sp.enc ++ ([y]).flatMap Sp.enc) := by simpa using hO5
            have HC5 := Lib.hid (cls_push HC4.out hO5' hB5)
            obtain ⟨A5, c5, rfl⟩ := own_slice hO5
            have hb5 := (hB5.block w.heap.size (by omega)).trans HC4.out.blk
            have q1 := blk_cell hb5 1
            simp at q1
            have f1 : w5.frozen? ⟨w.heap.size, 1, none⟩ = false := free_blk (i := 1) hb5
            clear hO5 hO5' hB5 hg5 hat5 hb5 cb
            go_wp2_with fail
            go_roundw
            case rel => exact ⟨n, false, _, acc ++ [y], rz, rfl, HNn.out.1, HNn.out.2, HTail.out, HAcc2.out, HC5.out⟩
            case measure => exact RxM_lt HCr.out.rx.rd HC5.out.rx.rd HCr.out.rx.ok HC5.out.rx.ok HCr.out.rx.sz HFw.out
end Go.Proofs.YtlhmdgaohonpbaaGreatDoor
