import Derived.Test.YtlhmdgaohonpbaaGreatDoorProg
import Derived.WalkKit
import Derived.WalkSpells
import Derived.WalkLawsBesides
import Derived.Outline
import Derived.BigQuiet
import Derived.Deep.QuietTactic
import Derived.Lib.Hide
import Derived.Maps.AppendAt
import Derived.Deep.AppendLies
import Derived.Laws.BytesArg
import Derived.Laws.AppendOwnNone
import Derived.Deep.RegionLaw
import Derived.Laws.CopyRow
import Derived.Laws.CopyOwn
import Derived.Test.YtlhmdgaohonpbaaGreatDoorGMap
set_option linter.unusedSimpArgs false
set_option linter.unusedVariables false
set_option linter.unusedSectionVars false
namespace Go.Proofs.YtlhmdgaohonpbaaGreatDoor
open Go.RowKit
structure Lb where
 n : ByteArray
 v : ByteArray
deriving DecidableEq
theorem Lb.ext' {a b : Lb} (h1 : a.n = b.n) (h2 : a.v = b.v) : a = b := by cases a; cases b; simp_all
def Rd {α : Type} (sz : Nat) (enc : α → List Value) (w : World) (A : Option Addr) (l : List α) : Prop :=
 ∀ i x, l[i]? = some x → ∃ b off, A = some ⟨b, off, none⟩ ∧ ∀ j u, (enc x)[j]? = some u → w.cell? ⟨b, off + i * sz + j, none⟩ = some u
def Lb.enc (x : Lb) : List Value := [.string x.n, .string x.v]
def RdL (w : World) (A : Option Addr) (l : List Lb) : Prop := Rd 2 Lb.enc w A l
theorem RdL.at_ {w : World} {A : Option Addr} {l : List Lb} (h : RdL w A l) {k : Nat} (hk : k < l.length) :
  ∃ b off, A = some ⟨b, off, none⟩ ∧ w.cell? ⟨b, off + k * 2, none⟩ = some (.string l[k].n) ∧ w.cell? ⟨b, off + k * 2 + 1, none⟩ = some (.string l[k].v) := by
 obtain ⟨b, off, e, h⟩ := h k l[k] (List.getElem?_eq_getElem hk)
 exact ⟨b, off, e, h 0 _ rfl, h 1 _ rfl⟩
theorem lbl_fields : ∃ f0 f1 : Field, Tryz.prog.underlying 80 = some (.struct #[f0, f1]) ∧ f0.name ≠ "_" ∧ f1.name ≠ "_" ∧ f0.offset = 0 ∧ f1.offset = 1 ∧ Tryz.prog.underlying f0.type = some .string ∧ Tryz.prog.underlying f1.type = some .string :=
 ⟨_, _, Tryz.underlying80, by decide, by decide, rfl, rfl, Tryz.underlying9, Tryz.underlying9⟩
theorem lbl_stood : Tryz.prog.stoodInHeld 80 = false := by kernel_rfl
theorem lbl_guard : Tryz.prog.eqGuardType Tryz.prog.depth 80 = false := by kernel_rfl
theorem run_eq_lbl (w : World) (a b : Lb) : (Op.equal 80 (.agg #[.string a.n, .string a.v]) (.agg #[.string b.n, .string b.v])).run Tryz.prog w = .ok (decide (a = b)) w := by
 obtain ⟨f0, f1, h, h1, h2, h3, h4, h5, h6⟩ := lbl_fields
 have := MapRaw.run_eq_pair h lbl_stood h1 h2 h3 h4 h5 h6 w (a.n, a.v) (b.n, b.v)
 unfold MapRaw.ekPair at this
 rw [this]
 by_cases e : a = b
 ·subst e; simp
 ·have : ¬ (a.n, a.v) = (b.n, b.v) := fun h => e (Lb.ext' (congrArg Prod.fst h) (congrArg Prod.snd h))
  simp [e, this]
theorem run_neq_lbl (w : World) (a b : Lb) : (binOp .neq 80 (.agg #[.string a.n, .string a.v]) (.agg #[.string b.n, .string b.v])).run Tryz.prog w = .ok (.bool (!decide (a = b))) w := by
 have h := run_eq_lbl w a b
 unfold Op.equal Op.maxDepth at h
 rw [run_neq_struct, h]; rfl
theorem run_guard_lbl (w : World) (op : BinOp) (x y : Operand) (xs ys : Array Value) : (eqGuard op 80 x y (.agg xs) (.agg ys)).run Tryz.prog w = .ok () w := run_eqGuard_agg w op _ x y xs ys lbl_guard
theorem ret_bool {a a' : Bool} (h1 : a = a') : Ending.returned (.bool a) = Ending.returned (.bool a') := by rw [h1]
theorem ret_bb {a a' b b' : Bool} (h1 : a = a') (h2 : b = b') : Ending.returned (.tuple #[.bool a, .bool b]) = Ending.returned (.tuple #[.bool a', .bool b']) := by rw [h1, h2]
theorem ret_int {k : IntKind} {a b : Int} (h : a = b) : Ending.returned (.int k a) = .returned (.int k b) := by rw [h]
def Dr (w w' : World) : Prop := ∃ n, w' = w.drewN n
theorem drewN_add (w : World) (a b : Nat) : (w.drewN a).drewN b = w.drewN (a + b) := by simp [World.drewN, Nat.add_assoc]
theorem Dr.refl (w : World) : Dr w w := ⟨0, rfl⟩
theorem Dr.step {w w' : World} (h : Dr w w') (n : Nat) : Dr w (w'.drewN n) := by obtain ⟨m, rfl⟩ := h; exact ⟨m + n, drewN_add _ _ _⟩
theorem Dr.trans {w w' w2 : World} (h : Dr w w') (k : Dr w' w2) : Dr w w2 := by obtain ⟨n, rfl⟩ := k; exact h.step n
theorem Dr.below {w w' : World} (h : Dr w w') (B : Nat) : Below B w w' := by obtain ⟨n, rfl⟩ := h; exact ⟨rfl, rfl, rfl, Nat.le_refl _, fun _ _ => rfl⟩
theorem later {W w1 : World} (hb : Below W.heap.size W w1) {p : Addr} {v : Value} (h : W.cell? p = some v) : w1.cell? p = some v := by
 have hp : p.block < W.heap.size := World.block_lt_of_cell? W p h
 rw [hb.cell hp]; exact h
theorem new2 {w w1 : World} {u v : Value} {T : TypeId} (hb : Below (w.alloc (.cells #[u, v] T)).heap.size (w.alloc (.cells #[u, v] T)) w1) :
  w1.cell? ⟨w.heap.size, 0, none⟩ = some u ∧ w1.cell? ⟨w.heap.size, 1, none⟩ = some v ∧ Below w.heap.size w w1 ∧ w.heap.size < w1.heap.size := by
 refine ⟨later hb (by simp), later hb (by simp), ((Below.refl w.heap.size w).alloc (Nat.le_refl _) _).trans (hb.mono (by simp)), ?_⟩
 have := hb.size; simp at this; omega
theorem bdr {B : Nat} {w W : World} (h : Below B w W) (n : Nat) : Below B w (W.drewN n) := ⟨h.os, h.tape, h.output, h.size, h.block⟩
section
variable {P : Program} {ops : Array Oper} {rest : List Oper} {o : Oper} {a : Act} {Q : Exit → Act → World → Prop}
theorem app_box {w0 W : World} (base : Nat) (hgd : o.guard = none) (s x : Operand) (t e : TypeId) (z : Value) (size bytes m : Nat) (cs : Array Value)
  (ho : o.op = .call { callee := .builtin .append, args := #[s, x], argTypes := #[t, t] })
  (ht : P.underlying t = some (.slice e)) (hinfo : (P.info? e).map (fun i => (i.zero, i.size, i.bytes)) = some (some z, size, bytes)) (hz : z.cells.size = size) (hs0 : 0 < size) (hb0 : 0 < bytes)
  (v : Value) (n : Nat) (xs : List Value) (hs : a.eval s = v) (hx : a.eval x = .slice (some ⟨W.heap.size, 0, none⟩) m m) (hcs : cs.size = m * size) (h1 : ∀ u ∈ cs.toList, u.oneCell' = true)
  (HO : W.ownsRow base e size v n xs) (HB : Below base w0 W) (hbase : base ≤ W.heap.size) (hl : (n + m) * bytes ≤ 140737488355328)
  (h : ∀ v1 w1, w1.ownsRow base e size v1 (n + m) (xs ++ cs.toList) → Below base w0 w1 → W.grownBy w1 v.ownBlock → (v1.ownBlock = v.ownBlock ∨ ∃ b, v1.ownBlock = some b ∧ W.heap.size ≤ b) → wpList P ops Q rest (a.put o.dst v1) w1) :
  wpList P ops Q (o :: rest) a (W.alloc (.cells cs e)) := by
 obtain ⟨i0, hi, hzz⟩ := Option.map_eq_some_iff.1 hinfo
 simp only [Prod.mk.injEq] at hzz
 obtain ⟨hz0, hz1, hz2⟩ := hzz
 have hlen : n + m ≤ 140737488355328 := Nat.le_trans (Nat.le_mul_of_pos_right _ hb0) hl
 refine wpList_append_own_at (W.alloc (.cells cs e)) hgd s x t ho base e i0 z size bytes ht hi hz0 hz1 hz2 hz hs0 v n xs hs (HO.alloc _) ⟨W.heap.size, 0, none⟩ m m cs.toList hx (by simpa using hcs)
  (World.news_of_block (cs := cs) (t := e) (fr := (0, 0)) (heap_alloc_new W _)) h1 (by simp only [maxLen]; omega) hl (by simp; omega) ?_
 intro v1 w1 hown hg _ hat
 refine h v1 w1 hown ((HB.alloc hbase _).grown hg (by simp; omega) (fun k hk => (HO.lt k hk).1)) (World.grownBy.trans (World.grownBy_alloc W _ _) hg) ?_
 rcases hat with hat | hat
 ·exact .inl hat
 ·exact .inr ⟨_, hat, by simp⟩
end
def byteVals (l : List UInt8) : List Value := l.map fun c => .int .u8 c.toNat
theorem own_slice {w : World} {base n : Nat} {e : TypeId} {size : Nat} {v : Value} {xs : List Value} (h : w.ownsRow base e size v n xs) : ∃ A c, v = .slice A n c := by
 rcases h.2 with ⟨rfl, rfl⟩ | ⟨g, cap, cur, rfl, _⟩
 ·exact ⟨none, 0, rfl⟩
 ·exact ⟨_, cap, rfl⟩
theorem byteVals_append (l r : List UInt8) : byteVals (l ++ r) = byteVals l ++ byteVals r := by simp [byteVals]
theorem strOfNums_bytes (l : List UInt8) : strOfNums (l.map fun b => (b.toNat : Int)) = ⟨l.toArray⟩ := by
 unfold strOfNums
 congr 2
 rw [List.map_map]
 have : ((fun n : Int => UInt8.ofNat n.toNat) ∘ fun b : UInt8 => (b.toNat : Int)) = id := by funext b; simp
 rw [this]; simp
theorem own_string {P : Program} {w : World} {base n : Nat} {e' src dst e : TypeId} {v : Value} {l : List UInt8} (hs : P.underlying src = some (.slice e)) (he : P.underlying e = some (.int .u8)) (hd : P.underlying dst = some .string)
  (h : w.ownsRow base e' 1 v n (byteVals l)) : (convert src dst v).run P w = .ok (.string ⟨l.toArray⟩) w := by
 have hl : l.length = n := by have := h.1; simp [byteVals] at this; exact this
 rw [← strOfNums_bytes]
 rcases h.2 with ⟨rfl, rfl⟩ | ⟨g, cap, cur, rfl, _⟩
 ·obtain rfl : l = [] := List.eq_nil_of_length_eq_zero hl
  exact run_convert_bytes_nil w src e hs he 0 0 dst hd
 ·refine run_convert_bytes_arg w src e hs he g 0 n cap _ (by simpa using hl) (fun i hi => ?_) dst hd
  have hil : i < l.length := by omega
  have hc := h.cells (g := g) rfl i (.int .u8 (l[i].toNat : Int)) (by simp [byteVals, List.getElem?_eq_getElem hil])
  have ha : (⟨g, 0, none⟩ : Addr).add i = ⟨g, 0 + i, none⟩ := by unfold Addr.add; split <;> simp_all
  rw [ha] at hc
  rw [hc]; simp [List.getD_eq_getElem?_getD, List.getElem?_eq_getElem hil]
theorem bthen {w W W1 : World} (h : Below w.heap.size w W) (hb : Below W.heap.size W W1) : Below w.heap.size w W1 := h.trans (hb.mono h.size)
theorem balloc {w W : World} (h : Below w.heap.size w W) (o : Obj) : Below w.heap.size w (W.alloc o) := h.alloc h.size o
theorem bdrew {B : Nat} {w W : World} (h : Below B w W) : Below B w W.drew := ⟨h.os, h.tape, h.output, h.size, h.block⟩
def SrcAt (w : World) (x : Value) (m size : Nat) (news : List Value) : Prop :=
 news.length = m * size ∧ (∀ u ∈ news, u.oneCell' = true) ∧ ((x = .slice none 0 0 ∧ m = 0) ∨ ∃ ad c, x = .slice (some ad) m c ∧ ∀ j u, news[j]? = some u → w.cell? (ad.add j) = some u)
section
variable {P : Program}
theorem wp_app {w0 w : World} {o : Oper} {a : Act} {K : Act → World → Prop} {Q : Exit → Act → World → Prop} (base : Nat) (s x : Operand) (t e : TypeId) (z : Value) (size bytes m : Nat) (news : List Value)
  (ho : o.op = .call { callee := .builtin .append, args := #[s, x], argTypes := #[t, t] })
  (ht : P.underlying t = some (.slice e)) (hinfo : (P.info? e).map (fun i => (i.zero, i.size, i.bytes)) = some (some z, size, bytes)) (hz : z.cells.size = size) (hs0 : 0 < size) (hb0 : 0 < bytes)
  (v : Value) (n : Nat) (xs : List Value) (hs : a.eval s = v) (hx : SrcAt w (a.eval x) m size news)
  (HO : w.ownsRow base e size v n xs) (HB : Below base w0 w) (hbase : base ≤ w.heap.size) (hl : (n + m) * bytes ≤ 140737488355328)
  (h : ∀ v1 w1, w1.ownsRow base e size v1 (n + m) (xs ++ news) → Below base w0 w1 → w.grownBy w1 v.ownBlock → (v1.ownBlock = v.ownBlock ∨ v1.ownBlock = some w.heap.size) → K (a.put o.dst v1) w1) :
  o.wp P a w K Q := by
 obtain ⟨i0, hi, hzz⟩ := Option.map_eq_some_iff.1 hinfo
 simp only [Prod.mk.injEq] at hzz
 obtain ⟨hz0, hz1, hz2⟩ := hzz
 have hlen : n + m ≤ 140737488355328 := Nat.le_trans (Nat.le_mul_of_pos_right _ hb0) hl
 obtain ⟨hnl, hone, hx⟩ := hx
 rcases hx with ⟨hx, rfl⟩ | ⟨ad, c, hx, hc⟩
 ·have hnil : news = [] := List.eq_nil_of_length_eq_zero (by omega)
  subst hnil
  have hrun := run_append_owned_none (P := P) (w := w) base t o.type e i0 size ht hi v n xs HO
  unfold Oper.wp
  simp [execOp, ho, resolve, invoke, builtin, hs, hx, hrun, Result.andThen]
  exact h v w (by simpa using HO) HB (World.grownBy.refl _ _) (.inl rfl)
 ·obtain ⟨v', w', hr, h2, h3, _, h5⟩ := run_append_own_at (P := P) w base t o.type e i0 z size bytes ht hi hz0 hz1 hz2 hz hs0 v n xs HO ad m c news hnl hc hone (by simp only [maxLen]; omega) hl hbase
  unfold Oper.wp execOp
  simp only [ho, resolve, invoke, builtin, Sem.run_bind, Sem.run_pure, Result.andThen_ok, List.map_toArray, List.map_cons, List.map_nil, hs, hx, hr]
  exact h v' w' h2 (HB.grown h3 hbase (fun k hk => (HO.lt k hk).1)) h3 h5
theorem wpList_app {w0 w : World} {ops : Array Oper} {rest : List Oper} {o : Oper} {a : Act} {Q : Exit → Act → World → Prop} (base : Nat) (hgd : o.guard = none) (s x : Operand) (t e : TypeId) (z : Value) (size bytes m : Nat) (news : List Value)
  (ho : o.op = .call { callee := .builtin .append, args := #[s, x], argTypes := #[t, t] })
  (ht : P.underlying t = some (.slice e)) (hinfo : (P.info? e).map (fun i => (i.zero, i.size, i.bytes)) = some (some z, size, bytes)) (hz : z.cells.size = size) (hs0 : 0 < size) (hb0 : 0 < bytes)
  (v : Value) (n : Nat) (xs : List Value) (hs : a.eval s = v) (hx : SrcAt w (a.eval x) m size news)
  (HO : w.ownsRow base e size v n xs) (HB : Below base w0 w) (hbase : base ≤ w.heap.size) (hl : (n + m) * bytes ≤ 140737488355328)
  (h : ∀ v1 w1, w1.ownsRow base e size v1 (n + m) (xs ++ news) → Below base w0 w1 → w.grownBy w1 v.ownBlock → (v1.ownBlock = v.ownBlock ∨ v1.ownBlock = some w.heap.size) → wpList P ops Q rest (a.put o.dst v1) w1) :
  wpList P ops Q (o :: rest) a w :=
 wpList_plain hgd fun _ hK => wp_app base s x t e z size bytes m news ho ht hinfo hz hs0 hb0 v n xs hs hx HO HB hbase hl fun v1 w1 h1 h2 h3 h4 => hK _ _ (h v1 w1 h1 h2 h3 h4)
theorem step_app {w0 w : World} {ops : Array Oper} {o : Oper} {a : Act} {K : Act → World → Prop} {Q : Exit → Act → World → Prop} {E : Prop} (base : Nat) (hgd : o.guard = none) (s x : Operand) (t e : TypeId) (z : Value) (size bytes m : Nat) (news : List Value)
  (ho : o.op = .call { callee := .builtin .append, args := #[s, x], argTypes := #[t, t] })
  (ht : P.underlying t = some (.slice e)) (hinfo : (P.info? e).map (fun i => (i.zero, i.size, i.bytes)) = some (some z, size, bytes)) (hz : z.cells.size = size) (hs0 : 0 < size) (hb0 : 0 < bytes)
  (v : Value) (n : Nat) (xs : List Value) (hs : a.eval s = v) (hx : SrcAt w (a.eval x) m size news)
  (HO : w.ownsRow base e size v n xs) (HB : Below base w0 w) (hbase : base ≤ w.heap.size) (hl : (n + m) * bytes ≤ 140737488355328)
  (h : ∀ v1 w1, w1.ownsRow base e size v1 (n + m) (xs ++ news) → Below base w0 w1 → w.grownBy w1 v.ownBlock → (v1.ownBlock = v.ownBlock ∨ v1.ownBlock = some w.heap.size) → K (a.put o.dst v1) w1) :
  if Region.wanted o (yielded ops a.tmps) = true then Oper.wp P o a w K Q else E := by
 have hw : Region.wanted o (yielded ops a.tmps) = true := by simp [Region.wanted, hgd]
 rw [if_pos hw]
 exact wp_app base s x t e z size bytes m news ho ht hinfo hz hs0 hb0 v n xs hs hx HO HB hbase hl h
end
theorem flat_get {α : Type} {enc : α → List Value} {sz : Nat} (he : ∀ x, (enc x).length = sz) : ∀ (l : List α) (i r : Nat) (hi : i < l.length), r < sz → (l.flatMap enc)[i * sz + r]? = (enc l[i])[r]?
 | [], i, _, hi, _ => by simp at hi
 | x :: l, 0, r, _, hr => by
  rw [List.flatMap_cons, List.getElem?_append_left (by rw [he]; omega)]; simp
 | x :: l, i + 1, r, hi, hr => by
  have e : (i + 1) * sz + r = (enc x).length + (i * sz + r) := by rw [he, Nat.add_mul]; omega
  rw [List.flatMap_cons, e, List.getElem?_append_right (by omega), Nat.add_sub_cancel_left]
  simpa using flat_get he l i r (by simpa using hi) hr
theorem flat_len' {α : Type} {enc : α → List Value} {sz : Nat} (he : ∀ x, (enc x).length = sz) (l : List α) : (l.flatMap enc).length = l.length * sz := by
 induction l with
 | nil => simp
 | cons x l ih => rw [List.flatMap_cons, List.length_append, he, ih, List.length_cons, Nat.add_mul]; omega
theorem add_plain (g o j : Nat) : (⟨g, o, none⟩ : Addr).add j = ⟨g, o + j, none⟩ := by unfold Addr.add; split <;> simp_all
theorem Rd.src {α : Type} {sz : Nat} {enc : α → List Value} (he : ∀ x, (enc x).length = sz) (h1 : ∀ x, ∀ u ∈ enc x, u.oneCell' = true) (h0 : 0 < sz) {w : World} {A : Option Addr} {l : List α} {c : Nat} (h : Rd sz enc w A l) (hA : A = none → c = 0) (hsp : ∀ ad, A = some ad → l ≠ [] → ad.spot = none) :
  SrcAt w (.slice A l.length c) l.length sz (l.flatMap enc) := by
 refine ⟨flat_len' he l, fun u hu => ?_, ?_⟩
 ·obtain ⟨x, _, hx⟩ := List.mem_flatMap.1 hu; exact h1 x u hx
 ·cases A with
  | none =>
   left
   have : l = [] := by
    cases l with
    | nil => rfl
    | cons x l => obtain ⟨b, off, e, _⟩ := h 0 x rfl; cases e
   subst this; rw [hA rfl]; exact ⟨rfl, rfl⟩
  | some ad =>
   right
   refine ⟨ad, c, rfl, fun j u hj => ?_⟩
   have hjl : j < l.length * sz := by rw [← flat_len' he l]; exact (List.getElem?_eq_some_iff.1 hj).1
   have hi : j / sz < l.length := by rw [Nat.div_lt_iff_lt_mul h0]; exact hjl
   obtain ⟨b, off, e, hc⟩ := h (j / sz) l[j / sz] (List.getElem?_eq_getElem hi)
   have ead : ad = ⟨b, off, none⟩ := Option.some.inj e
   subst ead
   have hd : j / sz * sz + j % sz = j := by rw [Nat.mul_comm]; exact Nat.div_add_mod j sz
   have hg := flat_get he l (j / sz) (j % sz) hi (Nat.mod_lt _ h0)
   rw [hd, hj] at hg
   have := hc (j % sz) u hg.symm
   rw [add_plain]
   rw [← this]; congr 2; omega
theorem own_rd {α : Type} {sz : Nat} {enc : α → List Value} (he : ∀ x, (enc x).length = sz) {w : World} {base : Nat} {e : TypeId} {v : Value} {n : Nat} {l : List α} (hn : n = l.length) (h : w.ownsRow base e sz v n (l.flatMap enc)) :
  ∃ A c, v = .slice A l.length c ∧ l.length ≤ c ∧ c ≤ maxLen ∧ (A = none → c = 0) ∧ (∀ ad, A = some ad → ad.spot = none ∧ base ≤ ad.block ∧ ad.block < w.heap.size) ∧ Rd sz enc w A l := by
 subst hn
 rcases h.2 with ⟨rfl, h0⟩ | ⟨g, cap, cur, rfl, hb, hg, hc1, hc2, hc3, hc4⟩
 ·have : l = [] := List.eq_nil_of_length_eq_zero h0
  subst this
  exact ⟨none, 0, rfl, Nat.le_refl _, by simp [maxLen], (fun _ => rfl), (fun ad e => by cases e), (fun i x hx => by simp at hx)⟩
 ·refine ⟨some ⟨g, 0, none⟩, cap, rfl, hc1, hc2, (fun e => by cases e), (fun ad e => by cases e; exact ⟨rfl, hb, (Array.getElem?_eq_some_iff.1 hg).1⟩), ?_⟩
  intro i x hx
  have hi : i < l.length := (List.getElem?_eq_some_iff.1 hx).1
  have hxl : l[i] = x := by rw [List.getElem?_eq_getElem hi] at hx; exact Option.some.inj hx
  refine ⟨g, 0, rfl, fun j u hj => ?_⟩
  have hj' : j < sz := by have := (List.getElem?_eq_some_iff.1 hj).1; rw [he] at this; exact this
  have hf := flat_get he l i j hi hj'
  rw [hxl, hj] at hf
  have := h.cells (g := g) rfl (i * sz + j) u hf
  rw [add_plain] at this
  rw [← this]; congr 2; omega
def Slc {α : Type} (sz : Nat) (enc : α → List Value) (w : World) (D : Nat → Prop) (v : Value) (l : List α) : Prop :=
 ∃ A c, v = .slice A l.length c ∧ l.length ≤ c ∧ c ≤ maxLen ∧ (A = none → c = 0) ∧ (∀ ad, A = some ad → l ≠ [] → ad.spot = none ∧ D ad.block ∧ ad.block < w.heap.size) ∧ Rd sz enc w A l
theorem Slc.mono {α : Type} {sz : Nat} {enc : α → List Value} {w : World} {D D' : Nat → Prop} {v : Value} {l : List α} (h : Slc sz enc w D v l) (hD : ∀ k, k < w.heap.size → D k → D' k) : Slc sz enc w D' v l := by
 obtain ⟨A, c, e, h1, h2, h3, h4, h5⟩ := h
 exact ⟨A, c, e, h1, h2, h3, (fun ad ha hn => ⟨(h4 ad ha hn).1, hD _ (h4 ad ha hn).2.2 (h4 ad ha hn).2.1, (h4 ad ha hn).2.2⟩), h5⟩
theorem Slc.move {α : Type} {sz : Nat} {enc : α → List Value} {w w' : World} {D : Nat → Prop} {v : Value} {l : List α} (h : Slc sz enc w D v l) (hs : w.heap.size ≤ w'.heap.size) (hb : ∀ k, k < w.heap.size → D k → w'.heap[k]? = w.heap[k]?) : Slc sz enc w' D v l := by
 obtain ⟨A, c, e, h1, h2, h3, h4, h5⟩ := h
 refine ⟨A, c, e, h1, h2, h3, (fun ad ha hn => ⟨(h4 ad ha hn).1, (h4 ad ha hn).2.1, Nat.lt_of_lt_of_le (h4 ad ha hn).2.2 hs⟩), ?_⟩
 intro i x hx
 obtain ⟨b, off, eA, hc⟩ := h5 i x hx
 refine ⟨b, off, eA, fun j u hj => ?_⟩
 have := h4 _ eA (fun e => by rw [e] at hx; simp at hx)
 rw [World.cell?_of_block (w := w) (hb b this.2.2 this.2.1)]
 exact hc j u hj
theorem Slc.below {α : Type} {sz : Nat} {enc : α → List Value} {w w' : World} {D : Nat → Prop} {v : Value} {l : List α} (h : Slc sz enc w D v l) (hb : Below w.heap.size w w') : Slc sz enc w' D v l :=
 h.move hb.size fun k hk _ => hb.block k hk
theorem own_slc {α : Type} {sz : Nat} {enc : α → List Value} (he : ∀ x, (enc x).length = sz) {w : World} {base : Nat} {e : TypeId} {v : Value} {n : Nat} {l : List α} (hn : n = l.length) (h : w.ownsRow base e sz v n (l.flatMap enc)) : Slc sz enc w (fun k => base ≤ k) v l := by
 obtain ⟨A, c, h1, h2, h3, h4, h5, h6⟩ := own_rd he hn h
 exact ⟨A, c, h1, h2, h3, h4, (fun ad ha _ => h5 ad ha), h6⟩
theorem Slc.src {α : Type} {sz : Nat} {enc : α → List Value} (he : ∀ x, (enc x).length = sz) (h1 : ∀ x, ∀ u ∈ enc x, u.oneCell' = true) (h0 : 0 < sz) {w : World} {D : Nat → Prop} {v : Value} {l : List α} (h : Slc sz enc w D v l) : SrcAt w v l.length sz (l.flatMap enc) := by
 obtain ⟨A, c, rfl, _, _, h3, h4, h5⟩ := h
 exact Rd.src he h1 h0 h5 h3 fun ad ha hn => (h4 ad ha hn).1
theorem Slc.nil {α : Type} (sz : Nat) (enc : α → List Value) (w : World) (D : Nat → Prop) : Slc sz enc w D (.slice none 0 0) ([] : List α) :=
 ⟨none, 0, rfl, Nat.le_refl _, by simp [maxLen], (fun _ => rfl), (fun ad e => by cases e), (fun i x hx => by simp at hx)⟩
section
variable {P : Program}
theorem wpList_copy_full {w0 w : World} {ops : Array Oper} {rest : List Oper} {o : Oper} {a : Act} {Q : Exit → Act → World → Prop} (base : Nat) (hgd : o.guard = none) (d s : Operand) (t e : TypeId) (size n : Nat) (xs news : List Value)
  (ho : o.op = .call { callee := .builtin .copy, args := #[d, s], argTypes := #[t, t] }) (ht : P.underlying t = some (.slice e)) (hsz : (P.info? e).map (·.size) = some size)
  (g : Nat) (x : Value) (hd : a.eval d = .slice (some ⟨g, 0, none⟩) n n) (hs : a.eval s = x) (HO : w.ownsRow base e size (.slice (some ⟨g, 0, none⟩) n n) n xs) (hx : SrcAt w x n size news) (HB : Below base w0 w)
  (h : ∀ w1, w1.ownsRow base e size (.slice (some ⟨g, 0, none⟩) n n) n news → Below base w0 w1 → w1.heap.size = w.heap.size → wpList P ops Q rest (a.put o.dst (goInt n)) w1) : wpList P ops Q (o :: rest) a w := by
 refine wpList_plain hgd fun K hK => ?_
 obtain ⟨hnl, hone, hx⟩ := hx
 have HO' := HO
 obtain ⟨hxl, hor⟩ := HO
 rcases hor with ⟨e0, _⟩ | ⟨g', cap, cur, e0, hb, hg, hc1, hc2, hc3, hc4⟩
 ·cases e0
 ·cases e0
  cases hq : P.info? e with
  | none => simp [hq] at hsz
  | some i =>
   have hi : i.size = size := by simpa [hq] using hsz
   rcases hx with ⟨rfl, rfl⟩ | ⟨ad, c, rfl, hcl⟩
   ·have hn0 : news = [] := List.eq_nil_of_length_eq_zero (by omega)
    have hx0 : xs = [] := List.eq_nil_of_length_eq_zero (by omega)
    subst hn0; subst hx0
    have hrun : (Builtin.copy_ #[t, t] o.type #[.slice (some ⟨g, 0, none⟩) 0 0, .slice none 0 0]).run P w = .ok (goInt 0) w := by
     simp [Builtin.copy_, run_underlying ht, Builtin.lenOf, Builtin.firstCells, sizeOf, typeInfo, hq, storeCells]
    unfold Oper.wp
    simp [execOp, ho, resolve, invoke, builtin, hd, hs, hrun, Result.andThen]
    exact hK _ _ (h w HO' HB rfl)
   ·have hl := run_loadCells_list (P := P) w ad news hcl
    have hst := run_storeCells_at P g 0 e news 0 cur w hg (by simp; rw [hnl, hc3]; exact Nat.le_refl _) hone
    have hrun : (Builtin.copy_ #[t, t] o.type #[.slice (some ⟨g, 0, none⟩) n n, .slice (some ad) n c]).run P w = .ok (goInt n) (w.setRow g (cur.toList.take (0 + 0) ++ news ++ cur.toList.drop (0 + 0 + news.length)).toArray) := by
     have hmin : Nat.min n n = n := Nat.min_self n
     simp [Builtin.copy_, run_underlying ht, Builtin.lenOf, Builtin.firstCells, sizeOf, typeInfo, hq, hi, hmin, ← hnl, hl, hst]
    unfold Oper.wp
    simp only [execOp, ho, resolve, invoke, builtin, Sem.run_bind, Sem.run_pure, Result.andThen_ok, List.map_toArray, List.map_cons, List.map_nil, hd, hs, hrun]
    have hcl2 : (cur.toList.take (0 + 0) ++ news ++ cur.toList.drop (0 + 0 + news.length)) = news := by
     have : cur.toList.length = news.length := by rw [Array.length_toList, hc3, hnl]
     simp [← this]
    rw [hcl2]
    refine hK _ _ (h _ ⟨hnl, .inr ⟨g, n, news.toArray, rfl, hb, setRow_heap w g cur _ e _ hg, Nat.le_refl _, hc2, by simp [hnl], by simp [← hnl]⟩⟩ (below_setRow HB hb _) (by simp [World.setRow]))
end
theorem grown_below {w w1 : World} (hg : w.grownBy w1 none) : Below w.heap.size w w1 := (Below.refl _ _).grown hg (Nat.le_refl _) (fun k hk => by cases hk)
theorem SrcAt.below {w w1 : World} {x : Value} {m sz : Nat} {news : List Value} (h : SrcAt w x m sz news) (hb : Below w.heap.size w w1) : SrcAt w1 x m sz news := by
 obtain ⟨h1, h2, h3⟩ := h
 refine ⟨h1, h2, ?_⟩
 rcases h3 with h3 | ⟨ad, c, e, hc⟩
 ·exact .inl h3
 ·exact .inr ⟨ad, c, e, fun j u hj => later hb (hc j u hj)⟩
theorem own_below {w w1 : World} {base : Nat} {e : TypeId} {size n : Nat} {v : Value} {xs : List Value} (h : w.ownsRow base e size v n xs) (hb : Below w.heap.size w w1) : w1.ownsRow base e size v n xs := by
 have hlt := h.lt
 obtain ⟨h1, h2⟩ := h
 refine ⟨h1, ?_⟩
 rcases h2 with h2 | ⟨g, cap, cur, rfl, hg, hh, r⟩
 ·exact .inl h2
 ·exact .inr ⟨g, cap, cur, rfl, hg, (hb.block g (hlt g rfl).2).trans hh, r⟩
theorem step_app2 {P : Program} {w0 W0 w : World} {ops : Array Oper} {o : Oper} {a : Act} {K : Act → World → Prop} {Q : Exit → Act → World → Prop} {E : Prop} (base : Nat) (hgd : o.guard = none) (s x : Operand) (t e : TypeId) (z : Value) (size bytes m : Nat) (news : List Value)
  (ho : o.op = .call { callee := .builtin .append, args := #[s, x], argTypes := #[t, t] })
  (ht : P.underlying t = some (.slice e)) (hinfo : (P.info? e).map (fun i => (i.zero, i.size, i.bytes)) = some (some z, size, bytes)) (hz : z.cells.size = size) (hs0 : 0 < size) (hb0 : 0 < bytes)
  (v : Value) (n : Nat) (xs : List Value) (hs : a.eval s = v) (y : Value) (hxe : a.eval x = y) (hx : SrcAt w y m size news)
  (HO : W0.ownsRow base e size v n xs) (HB : Below base w0 W0) (hbase : base ≤ W0.heap.size) (hW : Below W0.heap.size W0 w) (hl : (n + m) * bytes ≤ 140737488355328)
  (h : ∀ v1 w1, w1.ownsRow base e size v1 (n + m) (xs ++ news) → Below base w0 w1 → w.grownBy w1 v.ownBlock → (v1.ownBlock = v.ownBlock ∨ v1.ownBlock = some w.heap.size) → K (a.put o.dst v1) w1) :
  if Region.wanted o (yielded ops a.tmps) = true then Oper.wp P o a w K Q else E :=
 step_app base hgd s x t e z size bytes m news ho ht hinfo hz hs0 hb0 v n xs hs (by rw [hxe]; exact hx) (own_below HO hW) (HB.trans (hW.mono hbase)) (Nat.le_trans hbase hW.size) hl h
theorem src_block {w : World} {B m size : Nat} {cs : Array Value} {t : TypeId} {fr : Nat × Nat} (hb : w.heap[B]? = some (.cells cs t fr)) (hl : cs.size = m * size) (h1 : ∀ u ∈ cs.toList, u.oneCell' = true) (c : Nat) : SrcAt w (.slice (some ⟨B, 0, none⟩) m c) m size cs.toList :=
 ⟨by simpa using hl, h1, .inr ⟨_, _, rfl, World.news_of_block hb⟩⟩
theorem blk_grown {w w1 : World} {g : Nat} {o : Obj} {row : Option Nat} (h : w.heap[g]? = some o) (hg : w.grownBy w1 row) (hne : some g ≠ row) : w1.heap[g]? = some o := (hg.block g (Array.getElem?_eq_some_iff.1 h).1 hne).trans h
theorem blk_below {w w1 : World} {g : Nat} {o : Obj} (h : w.heap[g]? = some o) (hb : Below w.heap.size w w1) : w1.heap[g]? = some o := (hb.block g (Array.getElem?_eq_some_iff.1 h).1).trans h
theorem blk_new (w : World) (o : Obj) : (w.alloc o).heap[w.heap.size]? = some o := heap_alloc_new w o
theorem Rd.below {α : Type} {sz : Nat} {enc : α → List Value} {w w' : World} {A : Option Addr} {l : List α} (h : Rd sz enc w A l) (hb : Below w.heap.size w w') : Rd sz enc w' A l := by
 intro i x hx
 obtain ⟨b, off, e, h⟩ := h i x hx
 exact ⟨b, off, e, fun j u hj => later hb (h j u hj)⟩
end Go.Proofs.YtlhmdgaohonpbaaGreatDoor
