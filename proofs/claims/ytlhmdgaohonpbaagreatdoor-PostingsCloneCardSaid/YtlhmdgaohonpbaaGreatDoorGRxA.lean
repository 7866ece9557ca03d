import Derived.Shelf.Unicode.DecodeAny
import Derived.Shelf.Small.Utf8
import Derived.Test.YtlhmdgaohonpbaaGreatDoorProg
import Derived.Test.YtlhmdgaohonpbaaGreatDoorGLab
import Derived.Lib.QuoteLoop
import Derived.Test.YtlhmdgaohonpbaaGreatDoorGBz
import Derived.Deep.RegionHeld3
import Derived.Deep.DeepCutAuto
import Derived.Deep.CutBlock
import Derived.Deep.RegionLaw
import Derived.BigQuiet
import Derived.Laws.RangeAny
set_option linter.unusedSimpArgs false
set_option linter.unusedVariables false
set_option linter.unusedSectionVars false
namespace Go.Proofs
open Go.Shelf
def Tryz.lays197_ren : Go.Shelf.Ren := ⟨fun | 197 => 159 | 260 => 169 | 118 => 160 | n => n, fun | 0 => 0 | 3 => 3 | 4 => 4 | 5 => 5 | 9 => 9 | 21 => 21 | 46 => 119 | 105 => 217 | 119 => 185 | 138 => 187 | 139 => 188 | n => n, fun | 3 => 0 | 4 => 1 | n => n⟩
theorem Tryz.lays197 : Go.Proofs.Lays.n197 Tryz.prog Tryz.lays197_ren := {
 mixed := by kernel_rfl
 f197 := Tryz.func159.trans (congrArg some (by kernel_rfl))
 f260 := Tryz.func169.trans (congrArg some (by kernel_rfl))
 t0 := Tryz.underlying0
 a0 := Tryz.isAgg0
 z0 := Tryz.sizeOf0
 v0 := Tryz.zeroValue0
 t3 := Tryz.underlying3
 a3 := Tryz.isAgg3
 z3 := Tryz.sizeOf3
 v3 := Tryz.zeroValue3
 t4 := Tryz.underlying4
 a4 := Tryz.isAgg4
 z4 := Tryz.sizeOf4
 v4 := Tryz.zeroValue4
 t5 := Tryz.underlying5
 a5 := Tryz.isAgg5
 z5 := Tryz.sizeOf5
 v5 := Tryz.zeroValue5
 t9 := Tryz.underlying9
 a9 := Tryz.isAgg9
 z9 := Tryz.sizeOf9
 v9 := Tryz.zeroValue9
 t21 := Tryz.underlying21
 a21 := Tryz.isAgg21
 z21 := Tryz.sizeOf21
 v21 := Tryz.zeroValue21
 t46 := Tryz.underlying119
 a46 := Tryz.isAgg119
 z46 := Tryz.sizeOf119
 v46 := Tryz.zeroValue119
 t105 := Tryz.underlying217
 a105 := Tryz.isAgg217
 z105 := Tryz.sizeOf217
 v105 := Tryz.zeroValue217
 t119 := Tryz.underlying185
 a119 := Tryz.isAgg185
 z119 := Tryz.sizeOf185
 t138 := Tryz.underlying187
 a138 := Tryz.isAgg187
 z138 := Tryz.sizeOf187
 v138 := Tryz.zeroValue187
 t139 := Tryz.underlying188
 a139 := Tryz.isAgg188
 z139 := Tryz.sizeOf188
 v139 := Tryz.zeroValue188
 g3 := by kernel_rfl
 g4 := by kernel_rfl }
theorem Tryz.lays118 : Go.Proofs.Lays.n118 Tryz.prog Tryz.lays197_ren := {
 mixed := by kernel_rfl
 f118 := Tryz.func160.trans (congrArg some (by kernel_rfl))
 t3 := Tryz.underlying3
 a3 := Tryz.isAgg3
 z3 := Tryz.sizeOf3
 v3 := Tryz.zeroValue3
 t4 := Tryz.underlying4
 a4 := Tryz.isAgg4
 z4 := Tryz.sizeOf4
 v4 := Tryz.zeroValue4
 t21 := Tryz.underlying21
 a21 := Tryz.isAgg21
 z21 := Tryz.sizeOf21
 v21 := Tryz.zeroValue21 }
open Go.RowKit Go.Lib in
theorem Tryz.utf8_Decode (s : ByteArray) (w : World) (hT : Lib.Utf8Tabs 0 1 w) :
  Calls Tryz.prog 159 #[.string s] w fun e w' => e = .returned (.tuple #[.int .i32 (Lib.decodeGo s).1, .int .i64 (Lib.decodeGo s).2]) ∧ Below w.heap.size w w' := Any.utf8_DecodeRuneInString Tryz.lays197 s w hT
open Go.RowKit Go.Lib in
theorem Tryz.utf8_RuneLen (r : Int) (w : World) :
  Calls Tryz.prog 160 #[.int .i32 r] w fun e w' => e = .returned (.int .i64 (Lib.runeLen r)) ∧ w' = w := Any.utf8_RuneLen Tryz.lays118 r w
end Go.Proofs

namespace Go.Proofs.YtlhmdgaohonpbaaGreatDoor
open Go.RowKit Go.Proofs.YtlhmdgaohonpbaaGreatDoor.MapRaw
structure Sp where
 lo : Int
 hi : Int
def Sp.enc (x : Sp) : List Value := [.int .i32 x.lo, .int .i32 x.hi]
inductive Part where
 | mk (kind : Int) (set : List Sp) (but plain : Bool) (parts : List Part) (sign : Int)
structure Rs where
 at_ : Int
 depth : Int
 size : Int
inductive Out (α : Type) where
 | ok (x : α) (r : Rs)
 | bad (at_ e : Int)
def Out.on {α β : Type} (x : Out α) (f : α → Rs → Out β) : Out β := match x with | .ok a r => f a r | .bad a e => .bad a e
def decF (s : ByteArray) (at_ : Int) : Nat × Nat := Lib.decodeGo (s.extract at_.toNat s.size)
def peekF (s : ByteArray) (r : Rs) : Out Int :=
 if (s.size : Int) ≤ r.at_ then .ok (-1) r else if ((decF s r.at_).1 : Int) = 65533 ∧ ((decF s r.at_).2 : Int) < 2 then .bad r.at_ 8 else .ok (decF s r.at_).1 r
def skipF (c : Int) (r : Rs) : Rs := { r with at_ := r.at_ + Lib.runeLen c }
def specialF (c : Int) : Bool := [46, 42, 43, 63, 40, 41, 91, 93, 123, 125, 124, 94, 36, 92].any fun x => decide ((x : Int) = c)
def shortsF (c : Int) : List Sp := if c = 100 then [⟨48, 57⟩] else if c = 119 then [⟨48, 57⟩, ⟨65, 90⟩, ⟨97, 122⟩, ⟨95, 95⟩] else if c = 115 then [⟨32, 32⟩, ⟨9, 9⟩, ⟨10, 10⟩] else []
def escapeF (s : ByteArray) (r : Rs) : Out (List Sp × Bool) := (peekF s r).on fun c r =>
 if shortsF c ≠ [] then .ok (shortsF c, false) (skipF c r)
 else if c < 0 ∨ (specialF c = false ∧ c ≠ 45 ∧ c ≠ 47) then .bad r.at_ 8 else .ok ([⟨c, c⟩], true) (skipF c r)
def memberF (s : ByteArray) (r : Rs) : Out (List Sp × Bool) := (peekF s r).on fun c r =>
 if c = -1 ∨ c = 91 ∨ c = 93 ∨ c = 94 ∨ c = 45 then .bad r.at_ 8
 else if c = 92 then escapeF s (skipF c r) else .ok ([⟨c, c⟩], true) (skipF c r)
def loOf (l : List Sp) : Int := match l with | [] => 0 | x :: _ => x.lo
def upperF (s : ByteArray) (lo : Int) (r0 : Rs) : Out Int := (peekF s r0).on fun c r =>
 if c = 92 ∧ 125 < lo then .bad r.at_ 8
 else (memberF s r).on fun x r => if x.2 = false ∨ loOf x.1 < lo then .bad (if c = 92 then r0.at_ + 1 else r0.at_) 8 else .ok (loOf x.1) r
def rangeF (s : ByteArray) (x : List Sp × Bool) (r : Rs) : Out (List Sp) :=
 if x.2 = true then (peekF s r).on fun c r => if c = 45 then (upperF s (loOf x.1) (skipF 45 r)).on fun hi r => .ok [⟨loOf x.1, hi⟩] r else .ok x.1 r
 else .ok x.1 r
def classLoop (s : ByteArray) : Nat → Bool → List Sp → Rs → Out (List Sp)
 | 0, _, _, _ => .bad 0 0
 | n + 1, first, acc, r => (if first = true then .ok 0 r else peekF s r).on fun c r =>
   if c = 93 then .ok acc r
   else (memberF s r).on fun x r => (rangeF s x r).on fun l r => classLoop s n false (acc ++ l) r
def moreSz (r : Rs) : Rs := { r with size := wrap64 (r.size + 1) }
def classF (s : ByteArray) (r : Rs) : Out Part := (peekF s r).on fun c r =>
 (classLoop s (s.size + 1) true [] (if c = 94 then skipF 94 r else r)).on fun l r => .ok (.mk 0 l (decide (c = 94)) false [] 0) (moreSz (skipF 93 r))
def groupF (pat : Rs → Out Part) (s : ByteArray) (r : Rs) : Out Part :=
 if 20 ≤ r.depth then .bad r.at_ 60
 else (pat { skipF 40 r with depth := r.depth + 1 }).on fun p r => (peekF s r).on fun c r =>
  if c ≠ 41 then .bad r.at_ 8 else .ok p { skipF 41 r with depth := r.depth - 1 }
def atomF (pat : Rs → Out Part) (s : ByteArray) (r : Rs) : Out Part := (peekF s r).on fun c r =>
 if c = 40 then groupF pat s r
 else if c = 91 then classF s (skipF c r)
 else if c = 46 then .ok (.mk 0 [] true false [] 0) (moreSz (skipF c r))
 else if c = 92 then (escapeF s (skipF c r)).on fun x r => .ok (.mk 0 x.1 false x.2 [] 0) (moreSz r)
 else if specialF c = true then .bad r.at_ 8
 else .ok (.mk 0 [⟨c, c⟩] false true [] 0) (moreSz (skipF c r))
def signB (c : Int) : Bool := decide (c = 42) || decide (c = 43) || decide (c = 63)
def branchLoop (pat : Rs → Out Part) (s : ByteArray) : Nat → Int → List Part → Rs → Out (List Part)
 | 0, _, _, _ => .bad 0 0
 | n + 1, c, acc, r =>
  if 0 ≤ c ∧ c ≠ 124 ∧ c ≠ 41 then
   (atomF pat s r).on fun a r => (peekF s r).on fun g r =>
    (peekF s (if signB g = true then skipF g r else r)).on fun c r => branchLoop pat s n c (acc ++ [if signB g = true then .mk 3 [] false false [a] g else a]) r
  else .ok acc r
def branchF (pat : Rs → Out Part) (s : ByteArray) (r : Rs) : Out Part := (peekF s r).on fun c r => (branchLoop pat s (s.size + 1) c [] r).on fun l r => .ok (.mk 1 [] false false l 0) r
def patLoop (pat : Rs → Out Part) (s : ByteArray) : Nat → List Part → Rs → Out (List Part)
 | 0, _, _ => .bad 0 0
 | n + 1, acc, r => (peekF s r).on fun c r => if c = 124 then (branchF pat s (skipF 124 r)).on fun b r => patLoop pat s n (acc ++ [b]) r else .ok acc r
def patS (pat : Rs → Out Part) (s : ByteArray) (r : Rs) : Out Part := (branchF pat s r).on fun b r => (patLoop pat s (s.size + 1) [b] r).on fun l r => .ok (.mk 2 [] false false l 0) r
def patF (s : ByteArray) : Nat → Rs → Out Part
 | 0 => fun _ => .bad 0 0
 | d + 1 => patS (patF s d) s
def parseF (s : ByteArray) : Out Part :=
 if 256 < s.size then .bad 0 3 else (patF s 21 ⟨0, 0, 0⟩).on fun p r => if r.at_ < (s.size : Int) then .bad r.at_ 8 else .ok p r
theorem dec_valid (s : ByteArray) {at_ : Int} (h0 : 0 ≤ at_) (h : ¬ (s.size : Int) ≤ at_) : Lib.validRune ((decF s at_).1 : Int) = true := by
 unfold decF Lib.decodeGo
 have hs : (s.extract at_.toNat s.size).size ≠ 0 := by rw [ByteArray.size_extract]; omega
 rw [if_neg hs]
 exact Lib.rune_valid _
theorem runeLen_valid {c : Int} (h : Lib.validRune c = true) : 1 ≤ Lib.runeLen c ∧ Lib.runeLen c ≤ 4 ∧ 0 ≤ c ∧ c ≤ 1114111 := by
 unfold Lib.validRune at h
 simp only [decide_eq_true_eq] at h
 unfold Lib.runeLen
 repeat' split
 all_goals omega
theorem peek_ok {s : ByteArray} {r r' : Rs} {c : Int} (h0 : 0 ≤ r.at_) (h : peekF s r = .ok c r') : r' = r ∧ ((c = -1 ∧ (s.size : Int) ≤ r.at_) ∨ (0 ≤ c ∧ c ≤ 1114111 ∧ r.at_ < s.size ∧ 1 ≤ Lib.runeLen c ∧ Lib.runeLen c ≤ 4)) := by
 unfold peekF at h
 by_cases h1 : (s.size : Int) ≤ r.at_
 ·rw [if_pos h1] at h
  cases h
  exact ⟨rfl, .inl ⟨rfl, h1⟩⟩
 ·rw [if_neg h1] at h
  split at h
  ·cases h
  ·cases h
   have := runeLen_valid (dec_valid s h0 h1)
   exact ⟨rfl, .inr (by omega)⟩
structure RsOk (s : ByteArray) (r : Rs) : Prop where
 lo : 0 ≤ r.at_
 hi : r.at_ ≤ s.size + 4
 d0 : 0 ≤ r.depth
 d1 : r.depth ≤ 20
theorem RsOk.skip {s : ByteArray} {r : Rs} {c : Int} (h : RsOk s r) (hc : r.at_ < s.size) (h1 : 1 ≤ Lib.runeLen c) (h4 : Lib.runeLen c ≤ 4) : RsOk s (skipF c r) :=
 ⟨by have := h.lo; show 0 ≤ r.at_ + _; omega, by show r.at_ + _ ≤ _; omega, h.d0, h.d1⟩
structure Fwd (s : ByteArray) (k : Int) (r r' : Rs) : Prop where
 ok : RsOk s r'
 fwd : r.at_ + k ≤ r'.at_
 depth : r'.depth = r.depth
theorem Fwd.trans {s : ByteArray} {k k' : Int} {r r' r2 : Rs} (h : Fwd s k r r') (h' : Fwd s k' r' r2) : Fwd s (k + k') r r2 := ⟨h'.ok, by have := h.fwd; have := h'.fwd; omega, h'.depth.trans h.depth⟩
theorem Fwd.refl {s : ByteArray} {r : Rs} (h : RsOk s r) : Fwd s 0 r r := ⟨h, by omega, rfl⟩
theorem Fwd.le {s : ByteArray} {k k' : Int} {r r' : Rs} (h : Fwd s k r r') (hk : k' ≤ k) : Fwd s k' r r' := ⟨h.ok, by have := h.fwd; omega, h.depth⟩
theorem peek_fwd {s : ByteArray} {r r' : Rs} {c : Int} (h : RsOk s r) (hp : peekF s r = .ok c r') (hc : c ≠ -1) : Fwd s 1 r (skipF c r') := by
 obtain ⟨rfl, h2⟩ := peek_ok h.lo hp
 rcases h2 with ⟨e, -⟩ | ⟨_, _, h3, h4, h5⟩
 ·exact (hc e).elim
 ·exact ⟨h.skip h3 h4 h5, by show r'.at_ + 1 ≤ r'.at_ + _; omega, rfl⟩
theorem on_ok {α β : Type} {x : Out α} {f : α → Rs → Out β} {b : β} {r : Rs} (h : x.on f = .ok b r) : ∃ a r1, x = .ok a r1 ∧ f a r1 = .ok b r := by
 cases x with
 | ok a r1 => exact ⟨a, r1, rfl, h⟩
 | bad a e => cases h
theorem escape_fwd {s : ByteArray} {r r' : Rs} {x : List Sp × Bool} (h : RsOk s r) (he : escapeF s r = .ok x r') : Fwd s 1 r r' ∧ (x.2 = true → x.1.length = 1) := by
 obtain ⟨c, r1, h1, h2⟩ := on_ok he
 split at h2
 ·next hs =>
  cases h2
  refine ⟨peek_fwd h h1 (fun e => hs (by rw [e]; rfl)), fun e => by cases e⟩
 ·split at h2
  ·cases h2
  ·next hc =>
   cases h2
   exact ⟨peek_fwd h h1 (fun e => hc (.inl (by omega))), fun _ => rfl⟩
theorem member_fwd {s : ByteArray} {r r' : Rs} {x : List Sp × Bool} (h : RsOk s r) (he : memberF s r = .ok x r') : Fwd s 1 r r' ∧ (x.2 = true → x.1.length = 1) := by
 obtain ⟨c, r1, h1, h2⟩ := on_ok he
 split at h2
 ·cases h2
 ·next hc =>
  have hf := peek_fwd h h1 (fun e => hc (.inl e))
  split at h2
  ·obtain ⟨g1, g2⟩ := escape_fwd hf.ok h2
   exact ⟨(hf.trans g1).le (by omega), g2⟩
  ·cases h2
   exact ⟨hf, fun _ => rfl⟩
theorem peek_lt {s : ByteArray} {r r' : Rs} {c : Int} (h : RsOk s r) (hp : peekF s r = .ok c r') (hc : c ≠ -1) : r.at_ < s.size := by
 obtain ⟨rfl, h2⟩ := peek_ok h.lo hp
 rcases h2 with ⟨e, -⟩ | h2
 ·exact (hc e).elim
 ·exact h2.2.2.1
theorem shorts_len (c : Int) : (shortsF c).length ≤ 4 := by
 unfold shortsF
 repeat' split
 all_goals decide
theorem escape_len {s : ByteArray} {r r' : Rs} {x : List Sp × Bool} (he : escapeF s r = .ok x r') : x.1.length ≤ 4 := by
 obtain ⟨c, r1, h1, h2⟩ := on_ok he
 split at h2
 ·cases h2; exact shorts_len c
 ·split at h2
  ·cases h2
  ·cases h2; show 1 ≤ 4; omega
theorem member_len {s : ByteArray} {r r' : Rs} {x : List Sp × Bool} (he : memberF s r = .ok x r') : x.1.length ≤ 4 := by
 obtain ⟨c, r1, h1, h2⟩ := on_ok he
 split at h2
 ·cases h2
 ·split at h2
  ·exact escape_len h2
  ·cases h2; show 1 ≤ 4; omega
theorem member_lt {s : ByteArray} {r r' : Rs} {x : List Sp × Bool} (h : RsOk s r) (he : memberF s r = .ok x r') : r.at_ < s.size := by
 obtain ⟨c, r1, h1, h2⟩ := on_ok he
 split at h2
 ·cases h2
 ·next hc => exact peek_lt h h1 (fun e => hc (.inl e))
theorem upper_fwd {s : ByteArray} {lo : Int} {r r' : Rs} {x : Int} (h : RsOk s r) (he : upperF s lo r = .ok x r') : Fwd s 1 r r' := by
 obtain ⟨c, r1, h1, h2⟩ := on_ok he
 obtain ⟨rfl, -⟩ := peek_ok h.lo h1
 split at h2
 ·cases h2
 ·obtain ⟨y, r2, h3, h4⟩ := on_ok h2
  split at h4
  ·cases h4
  ·cases h4
   exact (member_fwd h h3).1
theorem range_fwd {s : ByteArray} {r r' : Rs} {x : List Sp × Bool} {l : List Sp} (h : RsOk s r) (he : rangeF s x r = .ok l r') : Fwd s 0 r r' := by
 unfold rangeF at he
 split at he
 ·obtain ⟨c, r1, h1, h2⟩ := on_ok he
  obtain ⟨rfl, -⟩ := peek_ok h.lo h1
  split at h2
  ·next hc =>
   obtain ⟨y, r2, h3, h4⟩ := on_ok h2
   cases h4
   have hf := peek_fwd h h1 (by omega)
   rw [hc] at hf
   exact (hf.trans (upper_fwd hf.ok h3)).le (by omega)
  ·cases h2; exact Fwd.refl h
 ·cases he; exact Fwd.refl h
theorem loop_fwd {s : ByteArray} : ∀ (n : Nat) (first : Bool) (acc l : List Sp) (r r' : Rs), RsOk s r → classLoop s n first acc r = .ok l r' → Fwd s 0 r r' ∧ r'.at_ < s.size ∧ peekF s r' = .ok 93 r'
 | 0, _, _, _, _, _, _, he => by cases he
 | n + 1, first, acc, l, r, r', h, he => by
  unfold classLoop at he
  obtain ⟨c, r1, h1, h2⟩ := on_ok he
  have hr : r1 = r ∧ (c = 93 → peekF s r = .ok 93 r) := by
   cases first with
   | true => simp only [if_pos] at h1; cases h1; exact ⟨rfl, fun e => by cases e⟩
   | false => rw [if_neg (by decide)] at h1; obtain ⟨rfl, -⟩ := peek_ok h.lo h1; exact ⟨rfl, fun e => by rw [h1, e]⟩
  obtain ⟨rfl, hr2⟩ := hr
  split at h2
  ·next hc =>
   cases h2
   obtain ⟨-, h5⟩ := peek_ok h.lo (hr2 hc)
   exact ⟨Fwd.refl h, by omega, hr2 hc⟩
  ·obtain ⟨x, r2, h3, h4⟩ := on_ok h2
   obtain ⟨l2, r3, h5, h6⟩ := on_ok h4
   have f1 := (member_fwd h h3).1
   have f2 := range_fwd f1.ok h5
   obtain ⟨f3, g1, g2⟩ := loop_fwd n false (acc ++ l2) l r3 r' f2.ok h6
   exact ⟨((f1.trans f2).trans f3).le (by omega), g1, g2⟩
end Go.Proofs.YtlhmdgaohonpbaaGreatDoor

namespace Go.Proofs.YtlhmdgaohonpbaaGreatDoor
open Go.RowKit Go.Proofs.YtlhmdgaohonpbaaGreatDoor.MapRaw
theorem Fwd.more {s : ByteArray} {k : Int} {r r' : Rs} (h : Fwd s k r r') : Fwd s k r (moreSz r') := ⟨⟨h.ok.lo, h.ok.hi, h.ok.d0, h.ok.d1⟩, h.fwd, h.depth⟩
theorem class_fwd {s : ByteArray} {r r' : Rs} {p : Part} (h : RsOk s r) (he : classF s r = .ok p r') : Fwd s 1 r r' := by
 obtain ⟨c, r1, h1, h2⟩ := on_ok he
 obtain ⟨rfl, -⟩ := peek_ok h.lo h1
 obtain ⟨l, r2, h3, h4⟩ := on_ok h2
 cases h4
 have hA : Fwd s 0 r1 (if c = 94 then skipF 94 r1 else r1) := by
  by_cases h94 : c = 94
  ·rw [if_pos h94]
   have := peek_fwd h h1 (by omega)
   rw [h94] at this
   exact this.le (by omega)
  ·rw [if_neg h94]; exact Fwd.refl h
 obtain ⟨f1, g1, g2⟩ := loop_fwd _ _ _ _ _ _ hA.ok h3
 have f2 := peek_fwd f1.ok g2 (by decide)
 exact (((hA.trans f1).trans f2).le (by omega)).more
def PatFwd (s : ByteArray) (pat : Rs → Out Part) : Prop := ∀ r r' p, RsOk s r → pat r = .ok p r' → Fwd s 0 r r'
theorem group_fwd {s : ByteArray} {pat : Rs → Out Part} (hp : PatFwd s pat) {r r' : Rs} {p : Part} (h : RsOk s r) (hpk : peekF s r = .ok 40 r) (he : groupF pat s r = .ok p r') : Fwd s 1 r r' := by
 unfold groupF at he
 split at he
 ·cases he
 ·next hd =>
  obtain ⟨q, r1, h1, h2⟩ := on_ok he
  obtain ⟨c, r2, h3, h4⟩ := on_ok h2
  have f0 := peek_fwd h hpk (by decide)
  have hok : RsOk s { skipF 40 r with depth := r.depth + 1 } := ⟨f0.ok.lo, f0.ok.hi, by have := h.d0; show 0 ≤ r.depth + 1; omega, by show r.depth + 1 ≤ 20; omega⟩
  have f1 := hp _ _ _ hok h1
  obtain ⟨rfl, -⟩ := peek_ok f1.ok.lo h3
  split at h4
  ·cases h4
  ·next hc =>
   cases h4
   have hc : c = 41 := by simpa using hc
   rw [hc] at h3
   have f2 := peek_fwd f1.ok h3 (by decide)
   have hd1 : r2.depth = r.depth + 1 := f1.depth
   refine ⟨⟨f2.ok.lo, f2.ok.hi, by show 0 ≤ r2.depth - 1; have := h.d0; omega, by show r2.depth - 1 ≤ 20; omega⟩, ?_, by show r2.depth - 1 = r.depth; omega⟩
   have e0 := f0.fwd
   have e1 := f1.fwd
   have e2 := f2.fwd
   change (skipF 40 r).at_ + 0 ≤ r2.at_ at e1
   show r.at_ + 1 ≤ (skipF 41 r2).at_
   omega
theorem atom_fwd {s : ByteArray} {pat : Rs → Out Part} (hp : PatFwd s pat) {r r' : Rs} {p : Part} {c : Int} (h : RsOk s r) (hpk : peekF s r = .ok c r) (hc : c ≠ -1) (he : atomF pat s r = .ok p r') : Fwd s 1 r r' := by
 have f0 := peek_fwd h hpk hc
 obtain ⟨c2, r2, h1, he⟩ := on_ok he
 rw [hpk] at h1
 cases h1
 split at he
 ·next e => exact group_fwd hp h (by rw [e] at hpk; exact hpk) he
 ·split at he
  ·exact (f0.trans (class_fwd f0.ok he)).le (by omega)
  ·split at he
   ·cases he; exact f0.more
   ·split at he
    ·obtain ⟨x, r1, h1, h2⟩ := on_ok he
     cases h2
     exact ((f0.trans (escape_fwd f0.ok h1).1).le (by omega)).more
    ·split at he
     ·cases he
     ·cases he; exact f0.more
theorem blp_fwd {s : ByteArray} {pat : Rs → Out Part} (hp : PatFwd s pat) : ∀ (n : Nat) (c : Int) (acc l : List Part) (r r' : Rs), RsOk s r → peekF s r = .ok c r → branchLoop pat s n c acc r = .ok l r' → Fwd s 0 r r'
 | 0, _, _, _, _, _, _, _, he => by cases he
 | n + 1, c, acc, l, r, r', h, hpk, he => by
  unfold branchLoop at he
  split at he
  ·next hc =>
   obtain ⟨a, r1, h1, h2⟩ := on_ok he
   have f1 := atom_fwd hp h hpk (by omega) h1
   obtain ⟨g, r2, h3, h4⟩ := on_ok h2
   obtain ⟨rfl, -⟩ := peek_ok f1.ok.lo h3
   have f2 : Fwd s 0 r2 (if signB g = true then skipF g r2 else r2) := by
    by_cases hg : signB g = true
    ·rw [if_pos hg]
     exact (peek_fwd f1.ok h3 (fun e => by rw [e] at hg; cases hg)).le (by omega)
    ·rw [if_neg hg]; exact Fwd.refl f1.ok
   obtain ⟨c2, r3, h5, h6⟩ := on_ok h4
   obtain ⟨e, -⟩ := peek_ok f2.ok.lo h5
   subst e
   have f3 := blp_fwd hp n c2 _ l _ r' f2.ok h5 h6
   exact ((f1.trans f2).trans f3).le (by omega)
  ·cases he; exact Fwd.refl h
theorem branch_fwd {s : ByteArray} {pat : Rs → Out Part} (hp : PatFwd s pat) : PatFwd s (branchF pat s) := fun r r' p h he => by
 obtain ⟨c, r1, h1, h2⟩ := on_ok he
 obtain ⟨rfl, -⟩ := peek_ok h.lo h1
 obtain ⟨l, r2, h3, h4⟩ := on_ok h2
 cases h4
 exact blp_fwd hp _ _ _ _ _ _ h h1 h3
theorem plp_fwd {s : ByteArray} {pat : Rs → Out Part} (hp : PatFwd s pat) : ∀ (n : Nat) (acc l : List Part) (r r' : Rs), RsOk s r → patLoop pat s n acc r = .ok l r' → Fwd s 0 r r'
 | 0, _, _, _, _, _, he => by cases he
 | n + 1, acc, l, r, r', h, he => by
  unfold patLoop at he
  obtain ⟨c, r1, h1, h2⟩ := on_ok he
  obtain ⟨rfl, -⟩ := peek_ok h.lo h1
  split at h2
  ·next hc =>
   obtain ⟨b, r2, h3, h4⟩ := on_ok h2
   have f0 := peek_fwd h h1 (by omega)
   rw [hc] at f0
   have f1 := branch_fwd hp _ _ _ f0.ok h3
   have f2 := plp_fwd hp n _ l r2 r' f1.ok h4
   exact ((f0.trans f1).trans f2).le (by omega)
  ·cases h2; exact Fwd.refl h
theorem patS_fwd {s : ByteArray} {pat : Rs → Out Part} (hp : PatFwd s pat) : PatFwd s (patS pat s) := fun r r' p h he => by
 obtain ⟨b, r1, h1, h2⟩ := on_ok he
 obtain ⟨l, r2, h3, h4⟩ := on_ok h2
 cases h4
 have f1 := branch_fwd hp _ _ _ h h1
 exact (f1.trans (plp_fwd hp _ _ _ _ _ f1.ok h3)).le (by omega)
theorem patF_fwd (s : ByteArray) : ∀ d, PatFwd s (patF s d)
 | 0 => fun r r' p h he => by cases he
 | d + 1 => patS_fwd (patF_fwd s d)
end Go.Proofs.YtlhmdgaohonpbaaGreatDoor

namespace Go.Proofs.YtlhmdgaohonpbaaGreatDoor
open Go.RowKit Go.Proofs.YtlhmdgaohonpbaaGreatDoor.MapRaw Go.ChangeMaps
def RdAt (w : World) (rb : Nat) (s : ByteArray) (r : Rs) : Prop := w.heap[rb]? = some (.cells #[.string s, .int .i64 r.at_, .int .i64 r.depth, .int .i64 r.size] 191 (0, 0))
theorem RdAt.cells {w : World} {rb : Nat} {s : ByteArray} {r : Rs} (h : RdAt w rb s r) : w.cell? ⟨rb, 0, none⟩ = some (.string s) ∧ w.cell? ⟨rb, 1, none⟩ = some (.int .i64 r.at_) ∧ w.cell? ⟨rb, 2, none⟩ = some (.int .i64 r.depth) ∧ w.cell? ⟨rb, 3, none⟩ = some (.int .i64 r.size) := by
 unfold RdAt at h
 have c0 := blk_cell h 0
 have c1 := blk_cell h 1
 have c2 := blk_cell h 2
 have c3 := blk_cell h 3
 simp at c0 c1 c2 c3
 exact ⟨c0, c1, c2, c3⟩
theorem RdAt.below {w w' : World} {rb : Nat} {s : ByteArray} {r : Rs} (h : RdAt w rb s r) (hb : Below w.heap.size w w') : RdAt w' rb s r := blk_below h hb
theorem RdAt.lt {w : World} {rb : Nat} {s : ByteArray} {r : Rs} (h : RdAt w rb s r) : rb < w.heap.size := (Array.getElem?_eq_some_iff.1 h).1
def BadE (a e : Int) : Ending := .panicked [{ v := .iface 193 (.agg #[.int .i64 a, .int .i64 e]), recovered := false }]
set_option maxHeartbeats 1000000 in
theorem rex_bad (rb : Nat) (s : ByteArray) (r : Rs) (e : Int) (w : World) (h : RdAt w rb s r) :
  Calls Tryz.prog 137 #[.pointer (some ⟨rb, 0, none⟩), .int .i64 e] w fun e' w' => e' = BadE r.at_ e ∧ w' = w := by
 obtain ⟨c0, c1, c2, c3⟩ := h.cells
 go_enter Tryz.func137, Tryz.ntmps137
 go_wp2
 exact ⟨rfl, rfl, rfl⟩
def PeekPost (w : World) (o : Out Int) (e : Ending) (w' : World) : Prop := match o with | .ok c _ => e = .returned (.int .i32 c) ∧ Below w.heap.size w w' | .bad a n => e = BadE a n ∧ Below w.heap.size w w'
set_option maxRecDepth 100000 in
set_option maxHeartbeats 1000000 in
theorem rex_peek (rb : Nat) (s : ByteArray) (r : Rs) (w : World) (h : RdAt w rb s r) (hr : RsOk s r) (hT : Tabs w) (h2 : 2 ≤ w.heap.size) (hs : s.size ≤ 256) :
  Calls Tryz.prog 148 #[.pointer (some ⟨rb, 0, none⟩)] w (PeekPost w (peekF s r)) := by
 obtain ⟨c0, c1, c2, c3⟩ := h.cells
 have HR := Lib.hid h
 have hlo := hr.lo
 have hhi := hr.hi
 by_cases h1 : (s.size : Int) ≤ r.at_
 ·have e : peekF s r = .ok (-1) r := by unfold peekF; rw [if_pos h1]
  rw [e]
  unfold PeekPost
  have hd : decide ((s.size : Int) ≤ r.at_) = true := decide_eq_true h1
  clear h e hr hhi
  go_enter Tryz.func148, Tryz.ntmps148
  go_wp2_with fail
  go_quiet (fail)
  go_wp2_with fail
  go_ret
  exact ⟨rfl, bdr (Below.refl _ _) _⟩
 ·have hd : decide ((s.size : Int) ≤ r.at_) = false := decide_eq_false h1
  have hdec := fun (W : World) (hW : Below w.heap.size w W) => Tryz.utf8_Decode (s.extract r.at_.toNat s.size) W (hT.below hW h2)
  have HDec := Lib.hid hdec
  have hpk : peekF s r = if ((decF s r.at_).1 : Int) = 65533 ∧ ((decF s r.at_).2 : Int) < 2 then .bad r.at_ 8 else .ok (decF s r.at_).1 r := by unfold peekF; rw [if_neg h1]
  unfold decF at hpk
  have HPk := Lib.hid hpk
  clear hdec hpk h hT
  generalize Lib.decodeGo (s.extract r.at_.toNat s.size) = d at *
  generalize peekF s r = pk at *
  obtain ⟨dc, dn⟩ := d
  simp only at HDec HPk
  go_enter Tryz.func148, Tryz.ntmps148
  go_wp2_with fail
  go_quiet (fail)
  go_wp2_with fail
  have hq : Below w.heap.size w (w.drewN nq) := bdr (Below.refl _ _) _
  have e0 : (w.drewN nq).drew.cell? ⟨rb, 0, none⟩ = some (.string s) := c0
  have e1 : (w.drewN nq).drew.cell? ⟨rb, 1, none⟩ = some (.int .i64 r.at_) := c1
  have HR1 := Lib.hid (HR.out.below hq)
  have HB1 := Lib.hid hq
  have hlo2 : r.at_ ≤ (s.size : Int) := by omega
  clear hq c0 c1 c2 c3
  generalize w.drewN nq = w1 at *
  go_region_held3 (fun w' => w'.cell? ⟨rb, 0, none⟩ = some (.string s) ∧ w'.cell? ⟨rb, 1, none⟩ = some (.int .i64 r.at_)) (first | exact ⟨e0, e1⟩ | exact ⟨later hb' e0, later hb' e1⟩)
   (first | (go_at_call 159; refine (HDec.out _ (bthen HB1.out (bdrew (Below.refl _ _)))).mono ?_; rintro e w' ⟨rfl, hb'⟩))
  have HR2 := Lib.hid (HR1.out.below (bthen (bdrew (Below.refl _ _)) hb'))
  have HB2 := Lib.hid (bthen HB1.out (bthen (bdrew (Below.refl _ _)) hb'))
  clear hb' e0 e1
  by_cases g1 : (dc : Int) = 65533
  ·have hg1 : ((dc : Int) == 65533) = true := by simpa using g1
   by_cases g2 : (dn : Int) < 2
   ·have hg2 : decide ((dn : Int) < 2) = true := decide_eq_true g2
    have HFin : Hid (∀ W, Below w.heap.size w W → PeekPost w pk (BadE r.at_ 8) W) := Lib.hid fun W hW => by rw [HPk.out, if_pos ⟨g1, g2⟩]; exact ⟨rfl, hW⟩
    have hbad := rex_bad rb s r 8 w' HR2.out
    have HBad := Lib.hid hbad
    clear g1 g2 hbad
    go_wp2_with fail
    refine HBad.out.mono ?_
    rintro e w2 ⟨rfl, rfl⟩
    exact ⟨rfl, HFin.out _ HB2.out⟩
   ·have hg2 : decide ((dn : Int) < 2) = false := decide_eq_false g2
    have HFin : Hid (∀ W, Below w.heap.size w W → PeekPost w pk (.returned (.int .i32 dc)) W) := Lib.hid fun W hW => by rw [HPk.out, if_neg (fun g => g2 g.2)]; exact ⟨rfl, hW⟩
    clear g1 g2
    go_wp2_with fail
    go_ret
    exact HFin.out _ HB2.out
  ·have hg1 : ((dc : Int) == 65533) = false := by simpa using g1
   have HFin : Hid (∀ W, Below w.heap.size w W → PeekPost w pk (.returned (.int .i32 dc)) W) := Lib.hid fun W hW => by rw [HPk.out, if_neg (fun g => g1 g.1)]; exact ⟨rfl, hW⟩
   clear g1
   go_wp2_with fail
   go_ret
   exact HFin.out _ HB2.out
set_option maxRecDepth 100000 in
set_option maxHeartbeats 1000000 in
theorem rex_skip (rb : Nat) (s : ByteArray) (r : Rs) (c : Int) (w : World) (h : RdAt w rb s r) (hb : 0 ≤ r.at_ ∧ r.at_ ≤ 1000 ∧ 1 ≤ Lib.runeLen c ∧ Lib.runeLen c ≤ 4) :
  Calls Tryz.prog 149 #[.pointer (some ⟨rb, 0, none⟩), .int .i32 c] w fun e w' => e = .returned (.tuple #[]) ∧ RdAt w' rb s (skipF c r) ∧ Apart (fun k => k = rb) w w' := by
 obtain ⟨c0, c1, c2, c3⟩ := h.cells
 have HR := Lib.hid h
 have hlen := fun (W : World) => Tryz.utf8_RuneLen c W
 have HLen := Lib.hid hlen
 have hsum : IntKind.i64.wrap (r.at_ + Lib.runeLen c) = r.at_ + Lib.runeLen c := IntWalk.i64_in _ (by omega)
 have e1 : w.drew.cell? ⟨rb, 1, none⟩ = some (.int .i64 r.at_) := c1
 have hfz : w.drew.frozen? ⟨rb, 1, none⟩ = false := free_blk (i := 1) (show w.drew.heap[rb]? = _ from h)
 have hfin : RdAt (w.setCell ⟨rb, 1, none⟩ (.int .i64 (r.at_ + Lib.runeLen c))).drew rb s (skipF c r) ∧ Apart (fun k => k = rb) w (w.setCell ⟨rb, 1, none⟩ (.int .i64 (r.at_ + Lib.runeLen c))).drew := by
  refine ⟨?_, ((Apart.refl (fun k => k = rb) w).setC ⟨rb, 1, none⟩ (.inl rfl) _).drew⟩
  exact setCell_blk (i := 1) (.int .i64 (r.at_ + Lib.runeLen c)) h
 have HFin := Lib.hid hfin
 clear hlen h hb c0 c1 c2 c3 hfin
 generalize Lib.runeLen c = n at *
 go_enter Tryz.func149, Tryz.ntmps149
 go_wp2_with fail
 go_region_law (first | (go_simp; go_at_call 160; refine (HLen.out _).mono ?_; rintro e w' ⟨rfl, rfl⟩))
 all_goals
  go_end0
  exact ⟨rfl, HFin.out⟩
end Go.Proofs.YtlhmdgaohonpbaaGreatDoor

namespace Go.Proofs.YtlhmdgaohonpbaaGreatDoor
open Go.RowKit Go.Proofs.YtlhmdgaohonpbaaGreatDoor.MapRaw Go.ChangeMaps
def sSp : ByteArray := ⟨#[46, 42, 43, 63, 40, 41, 91, 93, 123, 125, 124, 94, 36, 92]⟩
def lSp : List Nat := [46, 42, 43, 63, 40, 41, 91, 93, 123, 125, 124, 94, 36, 92]
theorem sp_dec {k : Nat} (h : k < 14) : Utf8.decode sSp k = (lSp[k]!, 1) := by
 have h1 : ((List.range 14).all fun p => decide (Utf8.decode sSp p = (lSp[p]!, 1))) = true := by kernel_rfl
 have := List.all_eq_true.1 h1 k (List.mem_range.2 h)
 simpa using this
theorem sp_get {k : Nat} (h : k < lSp.length) : lSp[k]! = lSp[k] := getElem!_pos lSp k h
theorem special_any (c : Int) : specialF c = lSp.any fun x => decide ((x : Int) = c) := rfl
set_option maxRecDepth 100000 in
set_option maxHeartbeats 1000000 in
theorem rex_special (c : Int) (w : World) :
  Calls Tryz.prog 168 #[.int .i32 c] w fun e w' => e = .returned (.bool (specialF c)) ∧ Below w.heap.size w w' := by
 have HSp := Lib.hid (special_any c)
 generalize specialF c = res at *
 have hsz : sSp.size = 14 := rfl
 go_enter Tryz.func168, Tryz.ntmps168
 go_wp2
 change Code.wp _ _ _ _ (w.iter sSp 0)
 go_loopw [2] (fun v wr => ∃ k : Nat, k ≤ 14 ∧ wr = w.iter sSp k ∧ AnyTo (fun x : Nat => decide ((x : Int) = c)) lSp k) (fun _ wr => 14 - wr.iterPos w.heap.size)
 case atStart => exact ⟨0, by omega, rfl, AnyTo.start _ _⟩
 case round =>
  obtain ⟨k, hk, rfl, hE⟩ := hrel
  by_cases hlt : k < 14
  ·have hkl : k < lSp.length := hlt
   have hnx : ∀ ty, (Instr.next (.pointer (some ⟨w.heap.size, 0, none⟩)) true ty).run Tryz.prog (w.iter sSp k) = _ := fun ty => run_next_any w sSp k ty (by rw [hsz]; exact hlt)
   rw [sp_dec hlt, sp_get hkl] at hnx
   have hRd := hE.round hkl
   generalize lSp[k] = x at *
   simp only at hnx
   rcases hRd with ⟨g1, g2⟩ | ⟨g1, g2⟩
   ·have hx : ((x : Int) == c) = true := by simpa using g1
    have hres : res = true := by rw [HSp.out, g2]
    have HRes := Lib.hid hres
    clear hE g1 g2 hres
    go_wp2
    go_ret
    exact ⟨ret_bool HRes.out.symm, Below.alloc (Below.refl _ _) (Nat.le_refl _) _⟩
   ·have hx : ((x : Int) == c) = false := by simpa using g1
    have G2 := Lib.hid g2
    clear hE g1 g2
    go_wp2
    go_roundw
    case rel => exact ⟨k + 1, by omega, rfl, G2.out⟩
    case measure => rw [World.iterPos_iter, World.iterPos_iter]; omega
  ·have hnx : ∀ ty, (Instr.next (.pointer (some ⟨w.heap.size, 0, none⟩)) true ty).run Tryz.prog (w.iter sSp k) = _ := fun ty => run_next_end w sSp k ty (by rw [hsz]; exact hlt)
   have hEd := hE.done (by exact hlt)
   have hres : res = false := by rw [HSp.out, hEd]
   have HRes := Lib.hid hres
   clear hE hEd hres
   go_wp2
   go_ret
   exact ⟨ret_bool HRes.out.symm, Below.alloc (Below.refl _ _) (Nat.le_refl _) _⟩
end Go.Proofs.YtlhmdgaohonpbaaGreatDoor

namespace Go.Proofs.YtlhmdgaohonpbaaGreatDoor
open Go.RowKit Go.Proofs.YtlhmdgaohonpbaaGreatDoor.MapRaw Go.ChangeMaps
theorem own_new {w : World} {T : TypeId} {cs : Array Value} {n sz : Nat} (hs : cs.size = n * sz) (hm : n ≤ maxLen) : (w.alloc (.cells cs T)).ownsRow w.heap.size T sz (.slice (some ⟨w.heap.size, 0, none⟩) n n) n cs.toList :=
 ⟨by simpa using hs, .inr ⟨w.heap.size, n, cs, rfl, Nat.le_refl _, blk_new _ _, Nat.le_refl _, hm, hs, List.take_of_length_le (by simp [hs])⟩⟩
def OwnS (w : World) (base : Nat) (v : Value) (l : List Sp) : Prop := w.ownsRow base 221 2 v l.length (l.flatMap Sp.enc)
theorem own_shift {w : World} {base b2 n sz : Nat} {e : TypeId} {v : Value} {xs : List Value} (h : w.ownsRow base e sz v n xs) (hb : b2 ≤ base) : w.ownsRow b2 e sz v n xs := by
 obtain ⟨h1, h2⟩ := h
 refine ⟨h1, h2.imp id ?_⟩
 rintro ⟨g, c, cur, e1, e2, e3⟩
 exact ⟨g, c, cur, e1, Nat.le_trans hb e2, e3⟩
def ShortsPost (w : World) (l : List Sp) (e : Ending) (w' : World) : Prop := ∃ v, e = .returned v ∧ OwnS w' w.heap.size v l ∧ (l = [] → v = .slice none 0 0) ∧ Below w.heap.size w w'
set_option maxRecDepth 100000 in
set_option maxHeartbeats 1000000 in
theorem rex_shorts (c : Int) (w : World) : Calls Tryz.prog 172 #[.int .i32 c] w (ShortsPost w (shortsF c)) := by
 unfold shortsF
 by_cases h1 : c = 100
 ·subst h1
  rw [if_pos rfl]
  go_enter Tryz.func172, Tryz.ntmps172
  go_wp2
  go_ret
  exact ⟨_, rfl, own_new (n := 1) (sz := 2) rfl (by decide), (fun e => by cases e), balloc (Below.refl _ _) _⟩
 ·rw [if_neg h1]
  have e1 : (c == 100) = false := by simpa using h1
  by_cases h2 : c = 119
  ·subst h2
   rw [if_pos rfl]
   go_enter Tryz.func172, Tryz.ntmps172
   go_wp2
   go_ret
   exact ⟨_, rfl, own_new (n := 4) (sz := 2) rfl (by decide), (fun e => by cases e), balloc (Below.refl _ _) _⟩
  ·rw [if_neg h2]
   have e2 : (c == 119) = false := by simpa using h2
   by_cases h3 : c = 115
   ·subst h3
    rw [if_pos rfl]
    go_enter Tryz.func172, Tryz.ntmps172
    go_wp2
    go_ret
    exact ⟨_, rfl, own_new (n := 3) (sz := 2) rfl (by decide), (fun e => by cases e), balloc (Below.refl _ _) _⟩
   ·rw [if_neg h3]
    have e3 : (c == 115) = false := by simpa using h3
    clear h1 h2 h3
    go_enter Tryz.func172, Tryz.ntmps172
    go_wp2
    go_ret
    exact ⟨_, rfl, ⟨rfl, .inl ⟨rfl, rfl⟩⟩, fun _ => rfl, Below.refl _ _⟩
structure RxW (w0 : World) (rb : Nat) (s : ByteArray) (r : Rs) (W : World) : Prop where
 rd : RdAt W rb s r
 tabs : Tabs W
 apart : Apart (fun k => k = rb) w0 W
 b2 : 2 ≤ rb
 ok : RsOk s r
 sz : s.size ≤ 256
theorem RxW.two {w0 W : World} {rb : Nat} {s : ByteArray} {r : Rs} (h : RxW w0 rb s r W) : 2 ≤ W.heap.size := by have := h.rd.lt; have := h.b2; omega
theorem RxW.below {w0 W W' : World} {rb : Nat} {s : ByteArray} {r : Rs} (h : RxW w0 rb s r W) (hb : Below W.heap.size W W') : RxW w0 rb s r W' :=
 ⟨h.rd.below hb, h.tabs.below hb h.two, h.apart.then hb, h.b2, h.ok, h.sz⟩
theorem RxW.turn {w0 W W' : World} {rb : Nat} {s : ByteArray} {r r' : Rs} (h : RxW w0 rb s r W) (hr : RdAt W' rb s r') (hA : Apart (fun k => k = rb) W W') (hok : RsOk s r') : RxW w0 rb s r' W' :=
 ⟨hr, h.tabs.keep fun k hk => hA.block k (by have := h.two; omega) (by have := h.b2; omega), h.apart.trans hA (fun _ _ h => h), h.b2, hok, h.sz⟩
theorem RxW.start {W : World} {rb : Nat} {s : ByteArray} {r : Rs} (h : RdAt W rb s r) (hT : Tabs W) (h2 : 2 ≤ rb) (hok : RsOk s r) (hs : s.size ≤ 256) : RxW W rb s r W := ⟨h, hT, Apart.refl _ _, h2, hok, hs⟩
def RxPost {α : Type} (w : World) (rb : Nat) (s : ByteArray) (val : World → α → Value → Prop) (o : Out α) (e : Ending) (w' : World) : Prop :=
 match o with
 | .ok x r' => ∃ v, e = .returned v ∧ val w' x v ∧ RxW w rb s r' w'
 | .bad a n => e = BadE a n ∧ Apart (fun k => k = rb) w w'
theorem RxW.peek {w0 W : World} {rb : Nat} {s : ByteArray} {r : Rs} (h : RxW w0 rb s r W) :
  Calls Tryz.prog 148 #[.pointer (some ⟨rb, 0, none⟩)] W fun e w' => match peekF s r with | .ok c _ => e = .returned (.int .i32 c) ∧ Below W.heap.size W w' | .bad a n => e = BadE a n ∧ Below W.heap.size W w' :=
 rex_peek rb s r W h.rd h.ok h.tabs h.two h.sz
theorem RxW.skip {w0 W : World} {rb : Nat} {s : ByteArray} {r r' : Rs} {c : Int} (h : RxW w0 rb s r W) (hp : peekF s r = .ok c r') (hc : c ≠ -1) :
  Calls Tryz.prog 149 #[.pointer (some ⟨rb, 0, none⟩), .int .i32 c] W fun e w' => e = .returned (.tuple #[]) ∧ RxW w0 rb s (skipF c r) w' ∧ Apart (fun k => k = rb) W w' := by
 obtain ⟨rfl, h2⟩ := peek_ok h.ok.lo hp
 rcases h2 with ⟨e, -⟩ | ⟨_, _, h3, h4, h5⟩
 ·exact (hc e).elim
 ·have := h.ok.lo
  have := h.ok.hi
  have := h.sz
  refine (rex_skip rb s r' c W h.rd (by omega)).mono ?_
  rintro e w' ⟨rfl, hr, hA⟩
  exact ⟨rfl, h.turn hr hA (h.ok.skip h3 h4 h5), hA⟩
theorem RxW.bad {w0 W : World} {rb : Nat} {s : ByteArray} {r : Rs} (h : RxW w0 rb s r W) (e : Int) :
  Calls Tryz.prog 137 #[.pointer (some ⟨rb, 0, none⟩), .int .i64 e] W fun e' w' => e' = BadE r.at_ e ∧ w' = W := rex_bad rb s r e W h.rd
def EscV (base : Nat) (w' : World) (x : List Sp × Bool) (v : Value) : Prop := ∃ sv, v = .tuple #[sv, .bool x.2] ∧ OwnS w' base sv x.1
set_option maxRecDepth 100000 in
set_option maxHeartbeats 1000000 in
theorem rex_escape {w : World} {rb : Nat} {s : ByteArray} {r : Rs} (h : RxW w rb s r w) :
  Calls Tryz.prog 167 #[.pointer (some ⟨rb, 0, none⟩)] w (RxPost w rb s (EscV w.heap.size) (escapeF s r)) := by
 have hpeek := h.peek
 have HW := Lib.hid h
 have hef : escapeF s r = (peekF s r).on fun c r => if shortsF c ≠ [] then .ok (shortsF c, false) (skipF c r) else if c < 0 ∨ (specialF c = false ∧ c ≠ 45 ∧ c ≠ 47) then .bad r.at_ 8 else .ok ([⟨c, c⟩], true) (skipF c r) := rfl
 cases hp : peekF s r with
 | bad a n =>
  rw [hp] at hpeek hef
  simp only [Out.on] at hef
  rw [hef]
  have HPeek := Lib.hid hpeek
  clear hpeek hp hef h
  go_enter Tryz.func167, Tryz.ntmps167
  go_wp2_with fail
  refine HPeek.out.mono ?_
  rintro e w1 ⟨rfl, hb⟩
  exact ⟨rfl, rfl, below_apart hb _⟩
 | ok c r1 =>
  obtain ⟨rfl, hc3⟩ := peek_ok h.ok.lo hp
  rw [hp] at hpeek hef
  simp only [Out.on] at hef
  have HPeek := Lib.hid hpeek
  have HSh := Lib.hid fun (W : World) => rex_shorts c W
  have HP := Lib.hid hp
  have HEf := Lib.hid hef
  generalize escapeF s r1 = res at *
  by_cases hs : shortsF c ≠ []
  ·rw [if_pos hs] at hef
   have hcm : c ≠ -1 := fun e => hs (by rw [e]; rfl)
   have HCm := Lib.hid hcm
   have HRes := Lib.hid hef
   obtain ⟨l, hl⟩ : ∃ l, l = shortsF c := ⟨_, rfl⟩
   rw [← hl] at hs HSh HRes
   have HL := Lib.hid hs
   clear hef HEf hs hl hpeek hp h hc3 hcm
   go_enter Tryz.func167, Tryz.ntmps167
   go_wp2_with fail
   refine HPeek.out.mono ?_
   rintro e w1 ⟨rfl, hb⟩
   have HB1 := Lib.hid hb
   have HW1 := Lib.hid (HW.out.below hb)
   clear hb
   go_wp2_with fail
   refine (HSh.out _).mono ?_
   rintro e w2 ⟨v2, rfl, hO2, -, hb2⟩
   have HO2 := Lib.hid hO2
   obtain ⟨g, n, c2, rfl⟩ : ∃ g n c2, v2 = .slice (some ⟨g, 0, none⟩) n c2 := by
    obtain ⟨-, ⟨-, h0⟩ | ⟨g, c2, _, e, -⟩⟩ := hO2
    ·exact (HL.out (List.eq_nil_of_length_eq_zero h0)).elim
    ·exact ⟨g, _, c2, e⟩
   have HW2 := Lib.hid (HW1.out.below hb2)
   have HS := Lib.hid (HB1.out.size)
   clear hb2 hO2
   go_wp2_with fail
   refine (HW2.out.skip HP.out HCm.out).mono ?_
   rintro e w3 ⟨rfl, hW3, hA3⟩
   have HFin : Hid (RxPost w rb s (EscV w.heap.size) res (.returned (.tuple #[.slice (some ⟨g, 0, none⟩) n c2, .bool false])) w3) := Lib.hid (by
    rw [HRes.out]
    refine ⟨_, rfl, ⟨_, rfl, ?_⟩, hW3⟩
    refine own_shift (ownsRow_move HO2.out fun k hk => hA3.block k (ownsRow_blk HO2.out k hk).2 (fun e => ?_)) HS.out
    have h5 := (ownsRow_blk HO2.out k hk).1
    have h6 := HW1.out.rd.lt
    omega)
   clear hW3 hA3
   go_wp2_with fail
   go_ret2
   exact HFin.out
  ·rw [if_neg hs] at hef
   have hs0 : shortsF c = [] := by simpa using hs
   rw [hs0] at HSh
   have HSp := Lib.hid fun (W : World) => rex_special c W
   by_cases hc0 : c < 0
   ·have hd : decide (c < 0) = true := decide_eq_true hc0
    rw [if_pos (.inl hc0)] at hef
    have HRes := Lib.hid hef
    clear hef HEf hs hs0 hpeek hp h hc3 hc0
    go_enter Tryz.func167, Tryz.ntmps167
    go_wp2_with fail
    refine HPeek.out.mono ?_
    rintro e w1 ⟨rfl, hb⟩
    have HW1 := Lib.hid (HW.out.below hb)
    clear hb
    go_wp2_with fail
    refine (HSh.out _).mono ?_
    rintro e w2 ⟨v2, rfl, -, hv2, hb2⟩
    have hv2 := hv2 rfl
    subst hv2
    have HW2 := Lib.hid (HW1.out.below hb2)
    clear hb2
    go_wp2_with fail
    refine (HW2.out.bad 8).mono ?_
    rintro e w3 ⟨rfl, rfl⟩
    refine ⟨rfl, ?_⟩
    rw [HRes.out]
    exact ⟨rfl, HW2.out.apart⟩
   ·have hd : decide (c < 0) = false := decide_eq_false hc0
    have hcm : c ≠ -1 := fun e => hc0 (by omega)
    have HCm := Lib.hid hcm
    obtain ⟨b1, hb1⟩ : ∃ b, (c != 45) = b := ⟨_, rfl⟩
    obtain ⟨b2, hb2⟩ : ∃ b, (c != 47) = b := ⟨_, rfl⟩
    have hres : res = if specialF c = false ∧ b1 = true ∧ b2 = true then .bad r1.at_ 8 else .ok ([⟨c, c⟩], true) (skipF c r1) := by
     rw [hef, ← hb1, ← hb2]
     congr 1
     simp [hc0]
    generalize specialF c = bs at *
    have HRes := Lib.hid hres
    clear hef HEf hs hs0 hpeek hp h hc3 hc0 hres hcm
    cases bs with
    | true =>
     go_enter Tryz.func167, Tryz.ntmps167
     go_wp2_with fail
     refine HPeek.out.mono ?_
     rintro e w1 ⟨rfl, hb⟩
     have HB1 := Lib.hid hb
     have HW1 := Lib.hid (HW.out.below hb)
     clear hb
     go_wp2_with fail
     refine (HSh.out _).mono ?_
     rintro e w2 ⟨v2, rfl, -, hv2, hbw2⟩
     have hv2 := hv2 rfl
     subst hv2
     have HB2 := Lib.hid (bthen HB1.out hbw2)
     have HW2 := Lib.hid (HW1.out.below hbw2)
     clear hbw2
     go_wp2_with fail
     refine (HSp.out _).mono ?_
     rintro e w3 ⟨rfl, hbw3⟩
     have HB3 := Lib.hid (bthen HB2.out hbw3)
     have HW3 := Lib.hid (HW2.out.below hbw3)
     clear hbw3
     go_wp2_with fail
     refine (HW3.out.skip HP.out HCm.out).mono ?_
     rintro e w4 ⟨rfl, hW4, hA4⟩
     have HW4 := Lib.hid hW4
     have HS := Lib.hid (Nat.le_trans HB3.out.size hA4.size)
     clear hW4 hA4
     go_wp2_with fail
     have hfin : RxPost w rb s (EscV w.heap.size) res (.returned (.tuple #[.slice (some ⟨w4.heap.size, 0, none⟩) 1 1, .bool true])) (w4.alloc (.cells #[.int .i32 c, .int .i32 c] 221)) := by
      rw [HRes.out, if_neg (by simp)]
      exact ⟨_, rfl, ⟨_, rfl, own_shift (own_new (n := 1) (sz := 2) rfl (by decide)) HS.out⟩, HW4.out.below (balloc (Below.refl _ _) _)⟩
     have HFin := Lib.hid hfin
     clear hfin
     go_ret2
     exact HFin.out
    | false =>
     cases b1 with
     | false =>
      go_enter Tryz.func167, Tryz.ntmps167
      go_wp2_with fail
      refine HPeek.out.mono ?_
      rintro e w1 ⟨rfl, hb⟩
      have HB1 := Lib.hid hb
      have HW1 := Lib.hid (HW.out.below hb)
      clear hb
      go_wp2_with fail
      refine (HSh.out _).mono ?_
      rintro e w2 ⟨v2, rfl, -, hv2, hbw2⟩
      have hv2 := hv2 rfl
      subst hv2
      have HB2 := Lib.hid (bthen HB1.out hbw2)
      have HW2 := Lib.hid (HW1.out.below hbw2)
      clear hbw2
      go_wp2_with fail
      refine (HSp.out _).mono ?_
      rintro e w3 ⟨rfl, hbw3⟩
      have HB3 := Lib.hid (bthen HB2.out hbw3)
      have HW3 := Lib.hid (HW2.out.below hbw3)
      clear hbw3
      go_wp2_with fail
      refine (HW3.out.skip HP.out HCm.out).mono ?_
      rintro e w4 ⟨rfl, hW4, hA4⟩
      have HW4 := Lib.hid hW4
      have HS := Lib.hid (Nat.le_trans HB3.out.size hA4.size)
      clear hW4 hA4
      go_wp2_with fail
      have hfin : RxPost w rb s (EscV w.heap.size) res (.returned (.tuple #[.slice (some ⟨w4.heap.size, 0, none⟩) 1 1, .bool true])) (w4.alloc (.cells #[.int .i32 c, .int .i32 c] 221)) := by
       rw [HRes.out, if_neg (by simp)]
       exact ⟨_, rfl, ⟨_, rfl, own_shift (own_new (n := 1) (sz := 2) rfl (by decide)) HS.out⟩, HW4.out.below (balloc (Below.refl _ _) _)⟩
      have HFin := Lib.hid hfin
      clear hfin
      go_ret2
      exact HFin.out
     | true =>
      cases b2 with
      | false =>
       go_enter Tryz.func167, Tryz.ntmps167
       go_wp2_with fail
       refine HPeek.out.mono ?_
       rintro e w1 ⟨rfl, hb⟩
       have HB1 := Lib.hid hb
       have HW1 := Lib.hid (HW.out.below hb)
       clear hb
       go_wp2_with fail
       refine (HSh.out _).mono ?_
       rintro e w2 ⟨v2, rfl, -, hv2, hbw2⟩
       have hv2 := hv2 rfl
       subst hv2
       have HB2 := Lib.hid (bthen HB1.out hbw2)
       have HW2 := Lib.hid (HW1.out.below hbw2)
       clear hbw2
       go_wp2_with fail
       refine (HSp.out _).mono ?_
       rintro e w3 ⟨rfl, hbw3⟩
       have HB3 := Lib.hid (bthen HB2.out hbw3)
       have HW3 := Lib.hid (HW2.out.below hbw3)
       clear hbw3
       go_wp2_with fail
       refine (HW3.out.skip HP.out HCm.out).mono ?_
       rintro e w4 ⟨rfl, hW4, hA4⟩
       have HW4 := Lib.hid hW4
       have HS := Lib.hid (Nat.le_trans HB3.out.size hA4.size)
       clear hW4 hA4
       go_wp2_with fail
       have hfin : RxPost w rb s (EscV w.heap.size) res (.returned (.tuple #[.slice (some ⟨w4.heap.size, 0, none⟩) 1 1, .bool true])) (w4.alloc (.cells #[.int .i32 c, .int .i32 c] 221)) := by
        rw [HRes.out, if_neg (by simp)]
        exact ⟨_, rfl, ⟨_, rfl, own_shift (own_new (n := 1) (sz := 2) rfl (by decide)) HS.out⟩, HW4.out.below (balloc (Below.refl _ _) _)⟩
       have HFin := Lib.hid hfin
       clear hfin
       go_ret2
       exact HFin.out
      | true =>
       go_enter Tryz.func167, Tryz.ntmps167
       go_wp2_with fail
       refine HPeek.out.mono ?_
       rintro e w1 ⟨rfl, hb⟩
       have HB1 := Lib.hid hb
       have HW1 := Lib.hid (HW.out.below hb)
       clear hb
       go_wp2_with fail
       refine (HSh.out _).mono ?_
       rintro e w2 ⟨v2, rfl, -, hv2, hbw2⟩
       have hv2 := hv2 rfl
       subst hv2
       have HB2 := Lib.hid (bthen HB1.out hbw2)
       have HW2 := Lib.hid (HW1.out.below hbw2)
       clear hbw2
       go_wp2_with fail
       refine (HSp.out _).mono ?_
       rintro e w3 ⟨rfl, hbw3⟩
       have HB3 := Lib.hid (bthen HB2.out hbw3)
       have HW3 := Lib.hid (HW2.out.below hbw3)
       clear hbw3
       go_wp2_with fail
       refine (HW3.out.bad 8).mono ?_
       rintro e w4 ⟨rfl, rfl⟩
       refine ⟨rfl, ?_⟩
       rw [HRes.out, if_pos (by simp)]
       exact ⟨rfl, HW3.out.apart⟩
end Go.Proofs.YtlhmdgaohonpbaaGreatDoor
