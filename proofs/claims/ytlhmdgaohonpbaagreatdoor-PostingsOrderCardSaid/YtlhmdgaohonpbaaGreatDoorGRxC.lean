import Derived.Test.YtlhmdgaohonpbaaGreatDoorGRxB
set_option linter.unusedSimpArgs false
set_option linter.unusedVariables false
set_option linter.unusedSectionVars false
/- package rex, its reader: member, upper. -/
namespace Go.Proofs.YtlhmdgaohonpbaaGreatDoor
open Go.RowKit Go.Proofs.YtlhmdgaohonpbaaGreatDoor.MapRaw Go.ChangeMaps

set_option maxRecDepth 100000 in
set_option maxHeartbeats 1000000 in
theorem rex_member {w : World} {rb : Nat} {s : ByteArray} {r : Rs} (h : RxW w rb s r w) :
    Calls Tryz.prog 170 #[.pointer (some ⟨rb, 0, none⟩)] w (RxPost w rb s (EscV w.heap.size) (memberF s r)) := by
  have hpeek := h.peek
  have HW := Lib.hid h
  have hef : memberF s r = (peekF s r).on fun c r => if c = -1 ∨ c = 91 ∨ c = 93 ∨ c = 94 ∨ c = 45 then .bad r.at_ 8 else if c = 92 then escapeF s (skipF c r) else .ok ([⟨c, c⟩], true) (skipF c r) := rfl
  cases hp : peekF s r with
  | bad a n =>
    rw [hp] at hpeek hef
    simp only [Out.on] at hef
    rw [hef]
    have HPeek := Lib.hid hpeek
    clear hpeek hp hef h
    go_enter Tryz.func170, Tryz.ntmps170
    go_wp2_with fail
    refine HPeek.out.mono ?_
    rintro e w1 ⟨rfl, hb⟩
    exact ⟨rfl, rfl, below_apart hb _⟩
  | ok c r1 =>
    obtain ⟨rfl, hc3⟩ := peek_ok h.ok.lo hp
    rw [hp] at hpeek hef
    simp only [Out.on] at hef
    have HPeek := Lib.hid hpeek
    have HP := Lib.hid hp
    generalize memberF s r1 = res at *
    by_cases hs : c = -1 ∨ c = 91 ∨ c = 93 ∨ c = 94 ∨ c = 45
    · rw [if_pos hs] at hef
      have HRes := Lib.hid hef
      clear hef hpeek hp h hc3
      rcases hs with rfl | rfl | rfl | rfl | rfl
      all_goals
        go_enter Tryz.func170, Tryz.ntmps170
        go_wp2_with fail
        refine HPeek.out.mono ?_
        rintro e w1 ⟨rfl, hb⟩
        have HW1 := Lib.hid (HW.out.below hb)
        clear hb
        go_wp2_with fail
        refine (HW1.out.bad 8).mono ?_
        rintro e w3 ⟨rfl, rfl⟩
        refine ⟨rfl, ?_⟩
        rw [HRes.out]
        exact ⟨rfl, HW1.out.apart⟩
    · rw [if_neg hs] at hef
      have e1 : (c == -1) = false := by simp; omega
      have e2 : (c == 91) = false := by simp; omega
      have e3 : (c == 93) = false := by simp; omega
      have e4 : (c == 94) = false := by simp; omega
      have e5 : (c == 45) = false := by simp; omega
      have HCm : Hid (c ≠ -1) := Lib.hid (fun e => hs (.inl e))
      by_cases h92 : c = 92
      · have e6 : (c == 92) = true := by simpa using h92
        rw [if_pos h92] at hef
        have HRes := Lib.hid hef
        clear hef hpeek hp h hc3 hs h92
        go_enter Tryz.func170, Tryz.ntmps170
        go_wp2_with fail
        refine HPeek.out.mono ?_
        rintro e w1 ⟨rfl, hb⟩
        have HB1 := Lib.hid hb
        have HW1 := Lib.hid (HW.out.below hb)
        clear hb
        go_wp2_with fail
        refine (HW1.out.skip HP.out HCm.out).mono ?_
        rintro e w2 ⟨rfl, hW2, hA2⟩
        have HW2 := Lib.hid hW2
        have HA2 := Lib.hid (HW1.out.apart.trans hA2 (fun _ _ h => h))
        have HS := Lib.hid (Nat.le_trans HB1.out.size hA2.size)
        clear hW2 hA2
        go_wp2_with fail
        refine (rex_escape (RxW.start HW2.out.rd HW2.out.tabs HW2.out.b2 HW2.out.ok HW2.out.sz)).mono ?_
        rintro e w3 hpost
        rw [← HRes.out] at hpost
        cases hr : res with
        | bad a n =>
          rw [hr] at hpost
          obtain ⟨rfl, hA⟩ := hpost
          exact ⟨rfl, rfl, HA2.out.trans hA (fun _ _ h => h)⟩
        | ok x r3 =>
          rw [hr] at hpost
          obtain ⟨v, rfl, ⟨sv, rfl, hO⟩, hW3⟩ := hpost
          obtain ⟨xl, xb⟩ := x
          have HFin : Hid (RxPost w rb s (EscV w.heap.size) res (.returned (.tuple #[sv, .bool xb])) w3) := Lib.hid (by rw [hr]; exact ⟨_, rfl, ⟨_, rfl, own_shift hO HS.out⟩, ⟨hW3.rd, hW3.tabs, HA2.out.trans hW3.apart (fun _ _ h => h), hW3.b2, hW3.ok, hW3.sz⟩⟩)
          clear hO hW3
          simp only
          go_wp2_with fail
          go_ret2
          exact HFin.out
      · have e6 : (c == 92) = false := by simpa using h92
        rw [if_neg h92] at hef
        have HRes := Lib.hid hef
        clear hef hpeek hp h hc3 hs h92
        go_enter Tryz.func170, Tryz.ntmps170
        go_wp2_with fail
        refine HPeek.out.mono ?_
        rintro e w1 ⟨rfl, hb⟩
        have HB1 := Lib.hid hb
        have HW1 := Lib.hid (HW.out.below hb)
        clear hb
        go_wp2_with fail
        refine (HW1.out.skip HP.out HCm.out).mono ?_
        rintro e w4 ⟨rfl, hW4, hA4⟩
        have HW4 := Lib.hid hW4
        have HS := Lib.hid (Nat.le_trans HB1.out.size hA4.size)
        clear hW4 hA4
        go_wp2_with fail
        have hfin : RxPost w rb s (EscV w.heap.size) res (.returned (.tuple #[.slice (some ⟨w4.heap.size, 0, none⟩) 1 1, .bool true])) (w4.alloc (.cells #[.int .i32 c, .int .i32 c] 221)) := by
          rw [HRes.out]
          exact ⟨_, rfl, ⟨_, rfl, own_shift (own_new (n := 1) (sz := 2) rfl (by decide)) HS.out⟩, HW4.out.below (balloc (Below.refl _ _) _)⟩
        have HFin := Lib.hid hfin
        clear hfin
        go_ret2
        exact HFin.out
theorem own_sp1 {W : World} {base : Nat} {v : Value} {y : Sp} (h : OwnS W base v [y]) : ∃ b off c, v = .slice (some ⟨b, off, none⟩) 1 c ∧ W.cell? ⟨b, off, none⟩ = some (.int .i32 y.lo) := by
  obtain ⟨A, c, rfl, -, -, -, -, hR⟩ := own_slc (enc := Sp.enc) (fun _ => rfl) rfl h
  obtain ⟨b, off, rfl, hc⟩ := hR 0 y rfl
  have z := hc 0 _ rfl
  simp at z
  exact ⟨b, off, c, rfl, z⟩
def IntV (_ : World) (x : Int) (v : Value) : Prop := v = .int .i32 x
set_option maxRecDepth 100000 in
set_option maxHeartbeats 2000000 in
theorem rex_upper {w : World} {rb : Nat} {s : ByteArray} {r : Rs} (lo : Int) (h : RxW w rb s r w) :
    Calls Tryz.prog 171 #[.pointer (some ⟨rb, 0, none⟩), .int .i32 lo] w (RxPost w rb s IntV (upperF s lo r)) := by
  have hpeek := h.peek
  have HW := Lib.hid h
  obtain ⟨c0, c1, c2, c3⟩ := h.rd.cells
  have hef : upperF s lo r = (peekF s r).on fun c r' => if c = 92 ∧ 125 < lo then .bad r'.at_ 8 else (memberF s r').on fun x r' => if x.2 = false ∨ loOf x.1 < lo then .bad (if c = 92 then r.at_ + 1 else r.at_) 8 else .ok (loOf x.1) r' := rfl
  have h1 := h.ok.lo
  have h2 := h.ok.hi
  have h3 := h.sz
  have hsum : IntKind.i64.wrap (r.at_ + 1) = r.at_ + 1 := IntWalk.i64_in _ (by omega)
  cases hp : peekF s r with
  | bad a n =>
    rw [hp] at hpeek hef
    simp only [Out.on] at hef
    rw [hef]
    have HPeek := Lib.hid hpeek
    clear hpeek hp hef h
    go_enter Tryz.func171, Tryz.ntmps171
    go_wp2_with fail
    refine HPeek.out.mono ?_
    rintro e w1 ⟨rfl, hb⟩
    exact ⟨rfl, rfl, below_apart hb _⟩
  | ok c r1 =>
    obtain ⟨rfl, hc3⟩ := peek_ok h.ok.lo hp
    rw [hp] at hpeek hef
    simp only [Out.on] at hef
    have HPeek := Lib.hid hpeek
    generalize upperF s lo r1 = res at *
    by_cases h92 : c = 92
    · have e6 : (c == 92) = true := by simpa using h92
      by_cases hlo : 125 < lo
      · have hd : decide (lo > 125) = true := decide_eq_true hlo
        have hd2 : decide (125 < lo) = true := decide_eq_true hlo
        rw [if_pos ⟨h92, hlo⟩] at hef
        have HRes := Lib.hid hef
        clear hef hpeek hp h hc3 h92 hlo
        go_enter Tryz.func171, Tryz.ntmps171
        go_wp2_with fail
        refine HPeek.out.mono ?_
        rintro e w1 ⟨rfl, hb⟩
        have HW1 := Lib.hid (HW.out.below hb)
        clear hb
        go_wp2_with fail
        refine (HW1.out.bad 8).mono ?_
        rintro e w3 ⟨rfl, rfl⟩
        refine ⟨rfl, ?_⟩
        rw [HRes.out]
        exact ⟨rfl, HW1.out.apart⟩
      · have hd : decide (lo > 125) = false := decide_eq_false hlo
        have hd2 : decide (125 < lo) = false := decide_eq_false hlo
        rw [if_neg (fun g => hlo g.2)] at hef
        have HRes := Lib.hid hef
        have H92 := Lib.hid h92
        clear hef hpeek hp h hc3 h92 hlo
        go_enter Tryz.func171, Tryz.ntmps171
        go_wp2_with fail
        refine HPeek.out.mono ?_
        rintro e w1 ⟨rfl, hb⟩
        have HW1 := Lib.hid (HW.out.below hb)
        clear hb c0 c1 c2 c3
        go_wp2_with fail
        refine (rex_member (RxW.start HW1.out.rd HW1.out.tabs HW1.out.b2 HW1.out.ok HW1.out.sz)).mono ?_
        rintro e w3 hpost
        cases hr : memberF s r1 with
        | bad a n =>
          rw [hr] at hpost
          obtain ⟨rfl, hA⟩ := hpost
          have HFin : Hid (RxPost w rb s IntV res (BadE a n) w3) := Lib.hid (by rw [HRes.out, hr]; exact ⟨rfl, HW1.out.apart.trans hA (fun _ _ h => h)⟩)
          clear hr hA
          exact ⟨rfl, HFin.out⟩
        | ok x r3 =>
          have hlen := (member_fwd HW1.out.ok hr).2
          rw [hr] at hpost
          obtain ⟨v, rfl, ⟨sv, rfl, hO⟩, hW3⟩ := hpost
          have HW3 : Hid (RxW w rb s r3 w3) := Lib.hid ⟨hW3.rd, hW3.tabs, HW1.out.apart.trans hW3.apart (fun _ _ h => h), hW3.b2, hW3.ok, hW3.sz⟩
          have hres := HRes.out
          rw [hr] at hres
          simp only [Out.on] at hres
          clear hW3 hr
          obtain ⟨xl, xb⟩ := x
          simp only at hO hlen hres
          have c1 := (HW3.out.rd.cells).2.1
          have f1 : w3.frozen? ⟨rb, 1, none⟩ = false := free_blk (i := 1) HW3.out.rd
          cases xb with
          | false =>
            have HFin : Hid (∀ W, Apart (fun k => k = rb) w W → RxPost w rb s IntV res (BadE (r1.at_ + 1) 8) W) := Lib.hid (fun W hA => by rw [hres, if_pos (.inl rfl)]; exact ⟨by rw [if_pos H92.out], hA⟩)
            have hbad := rex_bad rb s ⟨r1.at_ + 1, r3.depth, r3.size⟩ 8 (w3.setCell ⟨rb, 1, none⟩ (.int .i64 (r1.at_ + 1))) (setCell_blk (i := 1) (.int .i64 (r1.at_ + 1)) HW3.out.rd)
            have HBad := Lib.hid hbad
            have HA3 : Hid (Apart (fun k => k = rb) w (w3.setCell ⟨rb, 1, none⟩ (.int .i64 (r1.at_ + 1)))) := Lib.hid ((HW3.out.apart).setC ⟨rb, 1, none⟩ (.inl rfl) _)
            clear hO hlen hres hbad
            go_wp2_with fail
            refine HBad.out.mono ?_
            rintro e w4 ⟨rfl, rfl⟩
            exact ⟨rfl, HFin.out _ HA3.out⟩
          | true =>
            obtain ⟨y, rfl⟩ : ∃ y, xl = [y] := by
              match xl, hlen rfl with
              | [y], _ => exact ⟨y, rfl⟩
            obtain ⟨b, off, c, rfl, z0⟩ := own_sp1 hO
            by_cases hlo : y.lo < lo
            · have hd : decide (y.lo < lo) = true := decide_eq_true hlo
              have HFin : Hid (∀ W, Apart (fun k => k = rb) w W → RxPost w rb s IntV res (BadE (r1.at_ + 1) 8) W) := Lib.hid (fun W hA => by rw [hres, if_pos (.inr hlo)]; exact ⟨by rw [if_pos H92.out], hA⟩)
              have hbad := rex_bad rb s ⟨r1.at_ + 1, r3.depth, r3.size⟩ 8 (w3.setCell ⟨rb, 1, none⟩ (.int .i64 (r1.at_ + 1))) (setCell_blk (i := 1) (.int .i64 (r1.at_ + 1)) HW3.out.rd)
              have HBad := Lib.hid hbad
              have HA3 : Hid (Apart (fun k => k = rb) w (w3.setCell ⟨rb, 1, none⟩ (.int .i64 (r1.at_ + 1)))) := Lib.hid ((HW3.out.apart).setC ⟨rb, 1, none⟩ (.inl rfl) _)
              clear hO hlen hres hbad hlo
              go_wp2_with fail
              refine HBad.out.mono ?_
              rintro e w4 ⟨rfl, rfl⟩
              exact ⟨rfl, HFin.out _ HA3.out⟩
            · have hd : decide (y.lo < lo) = false := decide_eq_false hlo
              have HFin : Hid (RxPost w rb s IntV res (.returned (.int .i32 y.lo)) w3) := Lib.hid (by rw [hres, if_neg (by simp [loOf]; omega)]; exact ⟨_, rfl, rfl, HW3.out⟩)
              clear hO hlen hres hlo
              go_wp2_with fail
              go_ret
              exact HFin.out
    · have e6 : (c == 92) = false := by simpa using h92
      rw [if_neg (fun g => h92 g.1)] at hef
      have HRes := Lib.hid hef
      have H92 := Lib.hid h92
      clear hef hpeek hp h hc3 h92
      go_enter Tryz.func171, Tryz.ntmps171
      go_wp2_with fail
      refine HPeek.out.mono ?_
      rintro e w1 ⟨rfl, hb⟩
      have HW1 := Lib.hid (HW.out.below hb)
      clear hb c0 c1 c2 c3
      go_wp2_with fail
      refine (rex_member (RxW.start HW1.out.rd HW1.out.tabs HW1.out.b2 HW1.out.ok HW1.out.sz)).mono ?_
      rintro e w3 hpost
      cases hr : memberF s r1 with
      | bad a n =>
        rw [hr] at hpost
        obtain ⟨rfl, hA⟩ := hpost
        have HFin : Hid (RxPost w rb s IntV res (BadE a n) w3) := Lib.hid (by rw [HRes.out, hr]; exact ⟨rfl, HW1.out.apart.trans hA (fun _ _ h => h)⟩)
        clear hr hA
        exact ⟨rfl, HFin.out⟩
      | ok x r3 =>
        have hlen := (member_fwd HW1.out.ok hr).2
        rw [hr] at hpost
        obtain ⟨v, rfl, ⟨sv, rfl, hO⟩, hW3⟩ := hpost
        have HW3 : Hid (RxW w rb s r3 w3) := Lib.hid ⟨hW3.rd, hW3.tabs, HW1.out.apart.trans hW3.apart (fun _ _ h => h), hW3.b2, hW3.ok, hW3.sz⟩
        have hres := HRes.out
        rw [hr] at hres
        simp only [Out.on] at hres
        clear hW3 hr
        obtain ⟨xl, xb⟩ := x
        simp only at hO hlen hres
        have c1 := (HW3.out.rd.cells).2.1
        have f1 : w3.frozen? ⟨rb, 1, none⟩ = false := free_blk (i := 1) HW3.out.rd
        cases xb with
        | false =>
          have HFin : Hid (∀ W, Apart (fun k => k = rb) w W → RxPost w rb s IntV res (BadE (r1.at_) 8) W) := Lib.hid (fun W hA => by rw [hres, if_pos (.inl rfl)]; exact ⟨by rw [if_neg H92.out], hA⟩)
          have hbad := rex_bad rb s ⟨r1.at_, r3.depth, r3.size⟩ 8 (w3.setCell ⟨rb, 1, none⟩ (.int .i64 (r1.at_))) (setCell_blk (i := 1) (.int .i64 (r1.at_)) HW3.out.rd)
          have HBad := Lib.hid hbad
          have HA3 : Hid (Apart (fun k => k = rb) w (w3.setCell ⟨rb, 1, none⟩ (.int .i64 (r1.at_)))) := Lib.hid ((HW3.out.apart).setC ⟨rb, 1, none⟩ (.inl rfl) _)
          clear hO hlen hres hbad
          go_wp2_with fail
          refine HBad.out.mono ?_
          rintro e w4 ⟨rfl, rfl⟩
          exact ⟨rfl, HFin.out _ HA3.out⟩
        | true =>
          obtain ⟨y, rfl⟩ : ∃ y, xl = [y] := by
            match xl, hlen rfl with
            | [y], _ => exact ⟨y, rfl⟩
          obtain ⟨b, off, c, rfl, z0⟩ := own_sp1 hO
          by_cases hlo : y.lo < lo
          · have hd : decide (y.lo < lo) = true := decide_eq_true hlo
            have HFin : Hid (∀ W, Apart (fun k => k = rb) w W → RxPost w rb s IntV res (BadE (r1.at_) 8) W) := Lib.hid (fun W hA => by rw [hres, if_pos (.inr hlo)]; exact ⟨by rw [if_neg H92.out], hA⟩)
            have hbad := rex_bad rb s ⟨r1.at_, r3.depth, r3.size⟩ 8 (w3.setCell ⟨rb, 1, none⟩ (.int .i64 (r1.at_))) (setCell_blk (i := 1) (.int .i64 (r1.at_)) HW3.out.rd)
            have HBad := Lib.hid hbad
            have HA3 : Hid (Apart (fun k => k = rb) w (w3.setCell ⟨rb, 1, none⟩ (.int .i64 (r1.at_)))) := Lib.hid ((HW3.out.apart).setC ⟨rb, 1, none⟩ (.inl rfl) _)
            clear hO hlen hres hbad hlo
            go_wp2_with fail
            refine HBad.out.mono ?_
            rintro e w4 ⟨rfl, rfl⟩
            exact ⟨rfl, HFin.out _ HA3.out⟩
          · have hd : decide (y.lo < lo) = false := decide_eq_false hlo
            have HFin : Hid (RxPost w rb s IntV res (.returned (.int .i32 y.lo)) w3) := Lib.hid (by rw [hres, if_neg (by simp [loOf]; omega)]; exact ⟨_, rfl, rfl, HW3.out⟩)
            clear hO hlen hres hlo
            go_wp2_with fail
            go_ret
            exact HFin.out
end Go.Proofs.YtlhmdgaohonpbaaGreatDoor
