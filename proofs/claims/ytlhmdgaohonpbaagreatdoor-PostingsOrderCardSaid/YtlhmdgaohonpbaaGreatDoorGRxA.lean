import Derived.Shelf.Unicode.DecodeAny
import Derived.Shelf.Small.Utf8
import Derived.Test.YtlhmdgaohonpbaaGreatDoorProg
import Derived.Test.YtlhmdgaohonpbaaGreatDoorGLab
import Derived.Lib.QuoteLoop
set_option linter.unusedSimpArgs false
set_option linter.unusedVariables false
set_option linter.unusedSectionVars false
/-
  THE SHELF's CONTRACTS OF utf8.DecodeRuneInString AND utf8.RuneLen AT THIS DUMP.
-/
namespace Go.Proofs
open Go.Shelf
def Tryz.lays197_ren : Go.Shelf.Ren := ⟨fun | 197 => 159 | 260 => 169 | 118 => 160 | n => n, fun | 0 => 0 | 3 => 3 | 4 => 4 | 5 => 5 | 9 => 9 | 21 => 21 | 46 => 119 | 105 => 217 | 119 => 185 | 138 => 187 | 139 => 188 | n => n, fun | 3 => 0 | 4 => 1 | n => n⟩
theorem Tryz.lays197 : Go.Proofs.Lays.n197 Tryz.prog Tryz.lays197_ren := {
  mixed := by kernel_rfl
  f197 := Tryz.func159.trans (congrArg some (by kernel_rfl))
  f260 := Tryz.func169.trans (congrArg some (by kernel_rfl))
  t0 := Tryz.underlying0
  a0 := Tryz.isAgg0
  z0 := Tryz.sizeOf0
  v0 := Tryz.zeroValue0
  t3 := Tryz.underlying3
  a3 := Tryz.isAgg3
  z3 := Tryz.sizeOf3
  v3 := Tryz.zeroValue3
  t4 := Tryz.underlying4
  a4 := Tryz.isAgg4
  z4 := Tryz.sizeOf4
  v4 := Tryz.zeroValue4
  t5 := Tryz.underlying5
  a5 := Tryz.isAgg5
  z5 := Tryz.sizeOf5
  v5 := Tryz.zeroValue5
  t9 := Tryz.underlying9
  a9 := Tryz.isAgg9
  z9 := Tryz.sizeOf9
  v9 := Tryz.zeroValue9
  t21 := Tryz.underlying21
  a21 := Tryz.isAgg21
  z21 := Tryz.sizeOf21
  v21 := Tryz.zeroValue21
  t46 := Tryz.underlying119
  a46 := Tryz.isAgg119
  z46 := Tryz.sizeOf119
  v46 := Tryz.zeroValue119
  t105 := Tryz.underlying217
  a105 := Tryz.isAgg217
  z105 := Tryz.sizeOf217
  v105 := Tryz.zeroValue217
  t119 := Tryz.underlying185
  a119 := Tryz.isAgg185
  z119 := Tryz.sizeOf185
  t138 := Tryz.underlying187
  a138 := Tryz.isAgg187
  z138 := Tryz.sizeOf187
  v138 := Tryz.zeroValue187
  t139 := Tryz.underlying188
  a139 := Tryz.isAgg188
  z139 := Tryz.sizeOf188
  v139 := Tryz.zeroValue188
  g3 := by kernel_rfl
  g4 := by kernel_rfl }
theorem Tryz.lays118 : Go.Proofs.Lays.n118 Tryz.prog Tryz.lays197_ren := {
  mixed := by kernel_rfl
  f118 := Tryz.func160.trans (congrArg some (by kernel_rfl))
  t3 := Tryz.underlying3
  a3 := Tryz.isAgg3
  z3 := Tryz.sizeOf3
  v3 := Tryz.zeroValue3
  t4 := Tryz.underlying4
  a4 := Tryz.isAgg4
  z4 := Tryz.sizeOf4
  v4 := Tryz.zeroValue4
  t21 := Tryz.underlying21
  a21 := Tryz.isAgg21
  z21 := Tryz.sizeOf21
  v21 := Tryz.zeroValue21 }
open Go.RowKit Go.Lib in
theorem Tryz.utf8_Decode (s : ByteArray) (w : World) (hT : Lib.Utf8Tabs 0 1 w) :
    Calls Tryz.prog 159 #[.string s] w fun e w' => e = .returned (.tuple #[.int .i32 (Lib.decodeGo s).1, .int .i64 (Lib.decodeGo s).2]) ∧ Below w.heap.size w w' := Any.utf8_DecodeRuneInString Tryz.lays197 s w hT
open Go.RowKit Go.Lib in
theorem Tryz.utf8_RuneLen (r : Int) (w : World) :
    Calls Tryz.prog 160 #[.int .i32 r] w fun e w' => e = .returned (.int .i64 (Lib.runeLen r)) ∧ w' = w := Any.utf8_RuneLen Tryz.lays118 r w
end Go.Proofs

/- package rex, its reader: what it computes. -/
namespace Go.Proofs.YtlhmdgaohonpbaaGreatDoor
open Go.RowKit Go.Proofs.YtlhmdgaohonpbaaGreatDoor.MapRaw

/-- runes from the one to the other -/
structure Sp where
  lo : Int
  hi : Int
def Sp.enc (x : Sp) : List Value := [.int .i32 x.lo, .int .i32 x.hi]
/-- a part of a pattern -/
inductive Part where
  | mk (kind : Int) (set : List Sp) (but plain : Bool) (parts : List Part) (sign : Int)
/-- where a reader stands -/
structure Rs where
  at_ : Int
  depth : Int
  size : Int
inductive Out (α : Type) where
  | ok (x : α) (r : Rs)
  | bad (at_ e : Int)
def Out.on {α β : Type} (x : Out α) (f : α → Rs → Out β) : Out β := match x with | .ok a r => f a r | .bad a e => .bad a e
/-- the rune and its width at a place -/
def decF (s : ByteArray) (at_ : Int) : Nat × Nat := Lib.decodeGo (s.extract at_.toNat s.size)
def peekF (s : ByteArray) (r : Rs) : Out Int :=
  if (s.size : Int) ≤ r.at_ then .ok (-1) r else if ((decF s r.at_).1 : Int) = 65533 ∧ ((decF s r.at_).2 : Int) < 2 then .bad r.at_ 8 else .ok (decF s r.at_).1 r
def skipF (c : Int) (r : Rs) : Rs := { r with at_ := r.at_ + Lib.runeLen c }
def specialF (c : Int) : Bool := [46, 42, 43, 63, 40, 41, 91, 93, 123, 125, 124, 94, 36, 92].any fun x => decide ((x : Int) = c)
def shortsF (c : Int) : List Sp := if c = 100 then [⟨48, 57⟩] else if c = 119 then [⟨48, 57⟩, ⟨65, 90⟩, ⟨97, 122⟩, ⟨95, 95⟩] else if c = 115 then [⟨32, 32⟩, ⟨9, 9⟩, ⟨10, 10⟩] else []
def escapeF (s : ByteArray) (r : Rs) : Out (List Sp × Bool) := (peekF s r).on fun c r =>
  if shortsF c ≠ [] then .ok (shortsF c, false) (skipF c r)
  else if c < 0 ∨ (specialF c = false ∧ c ≠ 45 ∧ c ≠ 47) then .bad r.at_ 8 else .ok ([⟨c, c⟩], true) (skipF c r)
def memberF (s : ByteArray) (r : Rs) : Out (List Sp × Bool) := (peekF s r).on fun c r =>
  if c = -1 ∨ c = 91 ∨ c = 93 ∨ c = 94 ∨ c = 45 then .bad r.at_ 8
  else if c = 92 then escapeF s (skipF c r) else .ok ([⟨c, c⟩], true) (skipF c r)
def loOf (l : List Sp) : Int := match l with | [] => 0 | x :: _ => x.lo
def upperF (s : ByteArray) (lo : Int) (r0 : Rs) : Out Int := (peekF s r0).on fun c r =>
  if c = 92 ∧ 125 < lo then .bad r.at_ 8
  else (memberF s r).on fun x r => if x.2 = false ∨ loOf x.1 < lo then .bad (if c = 92 then r0.at_ + 1 else r0.at_) 8 else .ok (loOf x.1) r
/-- a round of a class -/
def rangeF (s : ByteArray) (x : List Sp × Bool) (r : Rs) : Out (List Sp) :=
  if x.2 = true then (peekF s r).on fun c r => if c = 45 then (upperF s (loOf x.1) (skipF 45 r)).on fun hi r => .ok [⟨loOf x.1, hi⟩] r else .ok x.1 r
  else .ok x.1 r
def classLoop (s : ByteArray) : Nat → Bool → List Sp → Rs → Out (List Sp)
  | 0, _, _, _ => .bad 0 0
  | n + 1, first, acc, r => (if first = true then .ok 0 r else peekF s r).on fun c r =>
      if c = 93 then .ok acc r
      else (memberF s r).on fun x r => (rangeF s x r).on fun l r => classLoop s n false (acc ++ l) r
def moreSz (r : Rs) : Rs := { r with size := wrap64 (r.size + 1) }
def classF (s : ByteArray) (r : Rs) : Out Part := (peekF s r).on fun c r =>
  (classLoop s (s.size + 1) true [] (if c = 94 then skipF 94 r else r)).on fun l r => .ok (.mk 0 l (decide (c = 94)) false [] 0) (moreSz (skipF 93 r))
def groupF (pat : Rs → Out Part) (s : ByteArray) (r : Rs) : Out Part :=
  if 20 ≤ r.depth then .bad r.at_ 60
  else (pat { skipF 40 r with depth := r.depth + 1 }).on fun p r => (peekF s r).on fun c r =>
    if c ≠ 41 then .bad r.at_ 8 else .ok p { skipF 41 r with depth := r.depth - 1 }
def atomF (pat : Rs → Out Part) (s : ByteArray) (r : Rs) : Out Part := (peekF s r).on fun c r =>
  if c = 40 then groupF pat s r
  else if c = 91 then classF s (skipF c r)
  else if c = 46 then .ok (.mk 0 [] true false [] 0) (moreSz (skipF c r))
  else if c = 92 then (escapeF s (skipF c r)).on fun x r => .ok (.mk 0 x.1 false x.2 [] 0) (moreSz r)
  else if specialF c = true then .bad r.at_ 8
  else .ok (.mk 0 [⟨c, c⟩] false true [] 0) (moreSz (skipF c r))
def signB (c : Int) : Bool := decide (c = 42) || decide (c = 43) || decide (c = 63)
def branchLoop (pat : Rs → Out Part) (s : ByteArray) : Nat → Int → List Part → Rs → Out (List Part)
  | 0, _, _, _ => .bad 0 0
  | n + 1, c, acc, r =>
    if 0 ≤ c ∧ c ≠ 124 ∧ c ≠ 41 then
      (atomF pat s r).on fun a r => (peekF s r).on fun g r =>
        (peekF s (if signB g = true then skipF g r else r)).on fun c r => branchLoop pat s n c (acc ++ [if signB g = true then .mk 3 [] false false [a] g else a]) r
    else .ok acc r
def branchF (pat : Rs → Out Part) (s : ByteArray) (r : Rs) : Out Part := (peekF s r).on fun c r => (branchLoop pat s (s.size + 1) c [] r).on fun l r => .ok (.mk 1 [] false false l 0) r
def patLoop (pat : Rs → Out Part) (s : ByteArray) : Nat → List Part → Rs → Out (List Part)
  | 0, _, _ => .bad 0 0
  | n + 1, acc, r => (peekF s r).on fun c r => if c = 124 then (branchF pat s (skipF 124 r)).on fun b r => patLoop pat s n (acc ++ [b]) r else .ok acc r
def patS (pat : Rs → Out Part) (s : ByteArray) (r : Rs) : Out Part := (branchF pat s r).on fun b r => (patLoop pat s (s.size + 1) [b] r).on fun l r => .ok (.mk 2 [] false false l 0) r
def patF (s : ByteArray) : Nat → Rs → Out Part
  | 0 => fun _ => .bad 0 0
  | d + 1 => patS (patF s d) s
/-- the pattern of a text: its part and size, or where it has what fault -/
def parseF (s : ByteArray) : Out Part :=
  if 256 < s.size then .bad 0 3 else (patF s 21 ⟨0, 0, 0⟩).on fun p r => if r.at_ < (s.size : Int) then .bad r.at_ 8 else .ok p r

/-! ### the reader goes forth -/
theorem dec_valid (s : ByteArray) {at_ : Int} (h0 : 0 ≤ at_) (h : ¬ (s.size : Int) ≤ at_) : Lib.validRune ((decF s at_).1 : Int) = true := by
  unfold decF Lib.decodeGo
  have hs : (s.extract at_.toNat s.size).size ≠ 0 := by rw [ByteArray.size_extract]; omega
  rw [if_neg hs]
  exact Lib.rune_valid _
theorem runeLen_valid {c : Int} (h : Lib.validRune c = true) : 1 ≤ Lib.runeLen c ∧ Lib.runeLen c ≤ 4 ∧ 0 ≤ c ∧ c ≤ 1114111 := by
  unfold Lib.validRune at h
  simp only [decide_eq_true_eq] at h
  unfold Lib.runeLen
  repeat' split
  all_goals omega
/-- what a peek that did not fail tells -/
theorem peek_ok {s : ByteArray} {r r' : Rs} {c : Int} (h0 : 0 ≤ r.at_) (h : peekF s r = .ok c r') : r' = r ∧ ((c = -1 ∧ (s.size : Int) ≤ r.at_) ∨ (0 ≤ c ∧ c ≤ 1114111 ∧ r.at_ < s.size ∧ 1 ≤ Lib.runeLen c ∧ Lib.runeLen c ≤ 4)) := by
  unfold peekF at h
  by_cases h1 : (s.size : Int) ≤ r.at_
  · rw [if_pos h1] at h
    cases h
    exact ⟨rfl, .inl ⟨rfl, h1⟩⟩
  · rw [if_neg h1] at h
    split at h
    · cases h
    · cases h
      have := runeLen_valid (dec_valid s h0 h1)
      exact ⟨rfl, .inr (by omega)⟩
/-- a reader's numbers -/
structure RsOk (s : ByteArray) (r : Rs) : Prop where
  lo : 0 ≤ r.at_
  hi : r.at_ ≤ s.size + 4
  d0 : 0 ≤ r.depth
  d1 : r.depth ≤ 20
theorem RsOk.skip {s : ByteArray} {r : Rs} {c : Int} (h : RsOk s r) (hc : r.at_ < s.size) (h1 : 1 ≤ Lib.runeLen c) (h4 : Lib.runeLen c ≤ 4) : RsOk s (skipF c r) :=
  ⟨by have := h.lo; show 0 ≤ r.at_ + _; omega, by show r.at_ + _ ≤ _; omega, h.d0, h.d1⟩
/-- a reader that went forth -/
structure Fwd (s : ByteArray) (k : Int) (r r' : Rs) : Prop where
  ok : RsOk s r'
  fwd : r.at_ + k ≤ r'.at_
  depth : r'.depth = r.depth
theorem Fwd.trans {s : ByteArray} {k k' : Int} {r r' r2 : Rs} (h : Fwd s k r r') (h' : Fwd s k' r' r2) : Fwd s (k + k') r r2 := ⟨h'.ok, by have := h.fwd; have := h'.fwd; omega, h'.depth.trans h.depth⟩
theorem Fwd.refl {s : ByteArray} {r : Rs} (h : RsOk s r) : Fwd s 0 r r := ⟨h, by omega, rfl⟩
theorem Fwd.le {s : ByteArray} {k k' : Int} {r r' : Rs} (h : Fwd s k r r') (hk : k' ≤ k) : Fwd s k' r r' := ⟨h.ok, by have := h.fwd; omega, h.depth⟩
theorem peek_fwd {s : ByteArray} {r r' : Rs} {c : Int} (h : RsOk s r) (hp : peekF s r = .ok c r') (hc : c ≠ -1) : Fwd s 1 r (skipF c r') := by
  obtain ⟨rfl, h2⟩ := peek_ok h.lo hp
  rcases h2 with ⟨e, -⟩ | ⟨_, _, h3, h4, h5⟩
  · exact (hc e).elim
  · exact ⟨h.skip h3 h4 h5, by show r'.at_ + 1 ≤ r'.at_ + _; omega, rfl⟩
theorem on_ok {α β : Type} {x : Out α} {f : α → Rs → Out β} {b : β} {r : Rs} (h : x.on f = .ok b r) : ∃ a r1, x = .ok a r1 ∧ f a r1 = .ok b r := by
  cases x with
  | ok a r1 => exact ⟨a, r1, rfl, h⟩
  | bad a e => cases h
theorem escape_fwd {s : ByteArray} {r r' : Rs} {x : List Sp × Bool} (h : RsOk s r) (he : escapeF s r = .ok x r') : Fwd s 1 r r' ∧ (x.2 = true → x.1.length = 1) := by
  obtain ⟨c, r1, h1, h2⟩ := on_ok he
  split at h2
  · next hs =>
    cases h2
    refine ⟨peek_fwd h h1 (fun e => hs (by rw [e]; rfl)), fun e => by cases e⟩
  · split at h2
    · cases h2
    · next hc =>
      cases h2
      exact ⟨peek_fwd h h1 (fun e => hc (.inl (by omega))), fun _ => rfl⟩
theorem member_fwd {s : ByteArray} {r r' : Rs} {x : List Sp × Bool} (h : RsOk s r) (he : memberF s r = .ok x r') : Fwd s 1 r r' ∧ (x.2 = true → x.1.length = 1) := by
  obtain ⟨c, r1, h1, h2⟩ := on_ok he
  split at h2
  · cases h2
  · next hc =>
    have hf := peek_fwd h h1 (fun e => hc (.inl e))
    split at h2
    · obtain ⟨g1, g2⟩ := escape_fwd hf.ok h2
      exact ⟨(hf.trans g1).le (by omega), g2⟩
    · cases h2
      exact ⟨hf, fun _ => rfl⟩
theorem peek_lt {s : ByteArray} {r r' : Rs} {c : Int} (h : RsOk s r) (hp : peekF s r = .ok c r') (hc : c ≠ -1) : r.at_ < s.size := by
  obtain ⟨rfl, h2⟩ := peek_ok h.lo hp
  rcases h2 with ⟨e, -⟩ | h2
  · exact (hc e).elim
  · exact h2.2.2.1
theorem shorts_len (c : Int) : (shortsF c).length ≤ 4 := by
  unfold shortsF
  repeat' split
  all_goals decide
theorem escape_len {s : ByteArray} {r r' : Rs} {x : List Sp × Bool} (he : escapeF s r = .ok x r') : x.1.length ≤ 4 := by
  obtain ⟨c, r1, h1, h2⟩ := on_ok he
  split at h2
  · cases h2; exact shorts_len c
  · split at h2
    · cases h2
    · cases h2; show 1 ≤ 4; omega
theorem member_len {s : ByteArray} {r r' : Rs} {x : List Sp × Bool} (he : memberF s r = .ok x r') : x.1.length ≤ 4 := by
  obtain ⟨c, r1, h1, h2⟩ := on_ok he
  split at h2
  · cases h2
  · split at h2
    · exact escape_len h2
    · cases h2; show 1 ≤ 4; omega
theorem member_lt {s : ByteArray} {r r' : Rs} {x : List Sp × Bool} (h : RsOk s r) (he : memberF s r = .ok x r') : r.at_ < s.size := by
  obtain ⟨c, r1, h1, h2⟩ := on_ok he
  split at h2
  · cases h2
  · next hc => exact peek_lt h h1 (fun e => hc (.inl e))
theorem range_len {s : ByteArray} {r r' : Rs} {x : List Sp × Bool} {l : List Sp} (hx : x.1.length ≤ 4) (he : rangeF s x r = .ok l r') : l.length ≤ 4 := by
  unfold rangeF at he
  split at he
  · obtain ⟨c, r1, h1, h2⟩ := on_ok he
    split at h2
    · obtain ⟨y, r2, h3, h4⟩ := on_ok h2
      cases h4; show 1 ≤ 4; omega
    · cases h2; exact hx
  · cases he; exact hx
theorem upper_fwd {s : ByteArray} {lo : Int} {r r' : Rs} {x : Int} (h : RsOk s r) (he : upperF s lo r = .ok x r') : Fwd s 1 r r' := by
  obtain ⟨c, r1, h1, h2⟩ := on_ok he
  obtain ⟨rfl, -⟩ := peek_ok h.lo h1
  split at h2
  · cases h2
  · obtain ⟨y, r2, h3, h4⟩ := on_ok h2
    split at h4
    · cases h4
    · cases h4
      exact (member_fwd h h3).1
theorem range_fwd {s : ByteArray} {r r' : Rs} {x : List Sp × Bool} {l : List Sp} (h : RsOk s r) (he : rangeF s x r = .ok l r') : Fwd s 0 r r' := by
  unfold rangeF at he
  split at he
  · obtain ⟨c, r1, h1, h2⟩ := on_ok he
    obtain ⟨rfl, -⟩ := peek_ok h.lo h1
    split at h2
    · next hc =>
      obtain ⟨y, r2, h3, h4⟩ := on_ok h2
      cases h4
      have hf := peek_fwd h h1 (by omega)
      rw [hc] at hf
      exact (hf.trans (upper_fwd hf.ok h3)).le (by omega)
    · cases h2; exact Fwd.refl h
  · cases he; exact Fwd.refl h
theorem loop_fwd {s : ByteArray} : ∀ (n : Nat) (first : Bool) (acc l : List Sp) (r r' : Rs), RsOk s r → classLoop s n first acc r = .ok l r' → Fwd s 0 r r' ∧ r'.at_ < s.size ∧ peekF s r' = .ok 93 r'
  | 0, _, _, _, _, _, _, he => by cases he
  | n + 1, first, acc, l, r, r', h, he => by
    unfold classLoop at he
    obtain ⟨c, r1, h1, h2⟩ := on_ok he
    have hr : r1 = r ∧ (c = 93 → peekF s r = .ok 93 r) := by
      cases first with
      | true => simp only [if_pos] at h1; cases h1; exact ⟨rfl, fun e => by cases e⟩
      | false => rw [if_neg (by decide)] at h1; obtain ⟨rfl, -⟩ := peek_ok h.lo h1; exact ⟨rfl, fun e => by rw [h1, e]⟩
    obtain ⟨rfl, hr2⟩ := hr
    split at h2
    · next hc =>
      cases h2
      obtain ⟨-, h5⟩ := peek_ok h.lo (hr2 hc)
      exact ⟨Fwd.refl h, by omega, hr2 hc⟩
    · obtain ⟨x, r2, h3, h4⟩ := on_ok h2
      obtain ⟨l2, r3, h5, h6⟩ := on_ok h4
      have f1 := (member_fwd h h3).1
      have f2 := range_fwd f1.ok h5
      obtain ⟨f3, g1, g2⟩ := loop_fwd n false (acc ++ l2) l r3 r' f2.ok h6
      exact ⟨((f1.trans f2).trans f3).le (by omega), g1, g2⟩
end Go.Proofs.YtlhmdgaohonpbaaGreatDoor

/- package rex, its reader: it goes forth (plain). -/
namespace Go.Proofs.YtlhmdgaohonpbaaGreatDoor
open Go.RowKit Go.Proofs.YtlhmdgaohonpbaaGreatDoor.MapRaw

theorem Fwd.more {s : ByteArray} {k : Int} {r r' : Rs} (h : Fwd s k r r') : Fwd s k r (moreSz r') := ⟨⟨h.ok.lo, h.ok.hi, h.ok.d0, h.ok.d1⟩, h.fwd, h.depth⟩
theorem class_fwd {s : ByteArray} {r r' : Rs} {p : Part} (h : RsOk s r) (he : classF s r = .ok p r') : Fwd s 1 r r' := by
  obtain ⟨c, r1, h1, h2⟩ := on_ok he
  obtain ⟨rfl, -⟩ := peek_ok h.lo h1
  obtain ⟨l, r2, h3, h4⟩ := on_ok h2
  cases h4
  have hA : Fwd s 0 r1 (if c = 94 then skipF 94 r1 else r1) := by
    by_cases h94 : c = 94
    · rw [if_pos h94]
      have := peek_fwd h h1 (by omega)
      rw [h94] at this
      exact this.le (by omega)
    · rw [if_neg h94]; exact Fwd.refl h
  obtain ⟨f1, g1, g2⟩ := loop_fwd _ _ _ _ _ _ hA.ok h3
  have f2 := peek_fwd f1.ok g2 (by decide)
  exact (((hA.trans f1).trans f2).le (by omega)).more
/-- a pattern's reader goes forth -/
def PatFwd (s : ByteArray) (pat : Rs → Out Part) : Prop := ∀ r r' p, RsOk s r → pat r = .ok p r' → Fwd s 0 r r'
theorem group_fwd {s : ByteArray} {pat : Rs → Out Part} (hp : PatFwd s pat) {r r' : Rs} {p : Part} (h : RsOk s r) (hpk : peekF s r = .ok 40 r) (he : groupF pat s r = .ok p r') : Fwd s 1 r r' := by
  unfold groupF at he
  split at he
  · cases he
  · next hd =>
    obtain ⟨q, r1, h1, h2⟩ := on_ok he
    obtain ⟨c, r2, h3, h4⟩ := on_ok h2
    have f0 := peek_fwd h hpk (by decide)
    have hok : RsOk s { skipF 40 r with depth := r.depth + 1 } := ⟨f0.ok.lo, f0.ok.hi, by have := h.d0; show 0 ≤ r.depth + 1; omega, by show r.depth + 1 ≤ 20; omega⟩
    have f1 := hp _ _ _ hok h1
    obtain ⟨rfl, -⟩ := peek_ok f1.ok.lo h3
    split at h4
    · cases h4
    · next hc =>
      cases h4
      have hc : c = 41 := by simpa using hc
      rw [hc] at h3
      have f2 := peek_fwd f1.ok h3 (by decide)
      have hd1 : r2.depth = r.depth + 1 := f1.depth
      refine ⟨⟨f2.ok.lo, f2.ok.hi, by show 0 ≤ r2.depth - 1; have := h.d0; omega, by show r2.depth - 1 ≤ 20; omega⟩, ?_, by show r2.depth - 1 = r.depth; omega⟩
      have e0 := f0.fwd
      have e1 := f1.fwd
      have e2 := f2.fwd
      change (skipF 40 r).at_ + 0 ≤ r2.at_ at e1
      show r.at_ + 1 ≤ (skipF 41 r2).at_
      omega
theorem atom_fwd {s : ByteArray} {pat : Rs → Out Part} (hp : PatFwd s pat) {r r' : Rs} {p : Part} {c : Int} (h : RsOk s r) (hpk : peekF s r = .ok c r) (hc : c ≠ -1) (he : atomF pat s r = .ok p r') : Fwd s 1 r r' := by
  have f0 := peek_fwd h hpk hc
  obtain ⟨c2, r2, h1, he⟩ := on_ok he
  rw [hpk] at h1
  cases h1
  split at he
  · next e => exact group_fwd hp h (by rw [e] at hpk; exact hpk) he
  · split at he
    · exact (f0.trans (class_fwd f0.ok he)).le (by omega)
    · split at he
      · cases he; exact f0.more
      · split at he
        · obtain ⟨x, r1, h1, h2⟩ := on_ok he
          cases h2
          exact ((f0.trans (escape_fwd f0.ok h1).1).le (by omega)).more
        · split at he
          · cases he
          · cases he; exact f0.more
theorem blp_fwd {s : ByteArray} {pat : Rs → Out Part} (hp : PatFwd s pat) : ∀ (n : Nat) (c : Int) (acc l : List Part) (r r' : Rs), RsOk s r → peekF s r = .ok c r → branchLoop pat s n c acc r = .ok l r' → Fwd s 0 r r'
  | 0, _, _, _, _, _, _, _, he => by cases he
  | n + 1, c, acc, l, r, r', h, hpk, he => by
    unfold branchLoop at he
    split at he
    · next hc =>
      obtain ⟨a, r1, h1, h2⟩ := on_ok he
      have f1 := atom_fwd hp h hpk (by omega) h1
      obtain ⟨g, r2, h3, h4⟩ := on_ok h2
      obtain ⟨rfl, -⟩ := peek_ok f1.ok.lo h3
      have f2 : Fwd s 0 r2 (if signB g = true then skipF g r2 else r2) := by
        by_cases hg : signB g = true
        · rw [if_pos hg]
          exact (peek_fwd f1.ok h3 (fun e => by rw [e] at hg; cases hg)).le (by omega)
        · rw [if_neg hg]; exact Fwd.refl f1.ok
      obtain ⟨c2, r3, h5, h6⟩ := on_ok h4
      obtain ⟨e, -⟩ := peek_ok f2.ok.lo h5
      subst e
      have f3 := blp_fwd hp n c2 _ l _ r' f2.ok h5 h6
      exact ((f1.trans f2).trans f3).le (by omega)
    · cases he; exact Fwd.refl h
theorem branch_fwd {s : ByteArray} {pat : Rs → Out Part} (hp : PatFwd s pat) : PatFwd s (branchF pat s) := fun r r' p h he => by
  obtain ⟨c, r1, h1, h2⟩ := on_ok he
  obtain ⟨rfl, -⟩ := peek_ok h.lo h1
  obtain ⟨l, r2, h3, h4⟩ := on_ok h2
  cases h4
  exact blp_fwd hp _ _ _ _ _ _ h h1 h3
theorem plp_fwd {s : ByteArray} {pat : Rs → Out Part} (hp : PatFwd s pat) : ∀ (n : Nat) (acc l : List Part) (r r' : Rs), RsOk s r → patLoop pat s n acc r = .ok l r' → Fwd s 0 r r'
  | 0, _, _, _, _, _, he => by cases he
  | n + 1, acc, l, r, r', h, he => by
    unfold patLoop at he
    obtain ⟨c, r1, h1, h2⟩ := on_ok he
    obtain ⟨rfl, -⟩ := peek_ok h.lo h1
    split at h2
    · next hc =>
      obtain ⟨b, r2, h3, h4⟩ := on_ok h2
      have f0 := peek_fwd h h1 (by omega)
      rw [hc] at f0
      have f1 := branch_fwd hp _ _ _ f0.ok h3
      have f2 := plp_fwd hp n _ l r2 r' f1.ok h4
      exact ((f0.trans f1).trans f2).le (by omega)
    · cases h2; exact Fwd.refl h
theorem patS_fwd {s : ByteArray} {pat : Rs → Out Part} (hp : PatFwd s pat) : PatFwd s (patS pat s) := fun r r' p h he => by
  obtain ⟨b, r1, h1, h2⟩ := on_ok he
  obtain ⟨l, r2, h3, h4⟩ := on_ok h2
  cases h4
  have f1 := branch_fwd hp _ _ _ h h1
  exact (f1.trans (plp_fwd hp _ _ _ _ _ f1.ok h3)).le (by omega)
theorem patF_fwd (s : ByteArray) : ∀ d, PatFwd s (patF s d)
  | 0 => fun r r' p h he => by cases he
  | d + 1 => patS_fwd (patF_fwd s d)
end Go.Proofs.YtlhmdgaohonpbaaGreatDoor
