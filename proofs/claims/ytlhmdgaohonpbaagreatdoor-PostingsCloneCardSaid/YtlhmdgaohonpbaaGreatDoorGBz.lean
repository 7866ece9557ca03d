import Derived.Test.YtlhmdgaohonpbaaGreatDoorGIx
import Derived.Lib.MinMax
import Derived.Deep.DeepCutAuto
import Derived.Deep.CutBlock
import Derived.Deep.RegionHeld3
import Derived.Deep.QuietTactic
import Derived.BigQuiet
import Derived.Deep.RegionLaw
import Derived.IntWalk
set_option linter.unusedSimpArgs false
set_option linter.unusedVariables false
set_option linter.unusedSectionVars false
namespace Go.Proofs.YtlhmdgaohonpbaaGreatDoor
open Go.RowKit Go.Proofs.YtlhmdgaohonpbaaGreatDoor.MapRaw Go.ChangeMaps
theorem setCell_blk {w : World} {b i : Nat} {cs : Array Value} {t : TypeId} {fr : Nat × Nat} (u : Value) (h : w.heap[b]? = some (.cells cs t fr)) : (w.setCell ⟨b, i, none⟩ u).heap[b]? = some (.cells (cs.setIfInBounds i u) t fr) := by
 simp [World.setCell, Array.getElem?_modify, h]
theorem free_blk {w : World} {b i : Nat} {cs : Array Value} {t : TypeId} (h : w.heap[b]? = some (.cells cs t (0, 0))) : w.frozen? ⟨b, i, none⟩ = false := by simp [World.frozen?, h]
theorem Apart.setC {P : Nat → Prop} {a b : World} (h : Apart P a b) (p : Addr) (hk : P p.block ∨ a.heap.size ≤ p.block) (u : Value) : Apart P a (b.setCell p u) := by
 refine h.trans (Q := fun i => i = p.block) ⟨rfl, rfl, rfl, by simp [World.setCell], fun i _ hne => Below.heap_setCell _ _ _ _ hne⟩ (fun i hi e => ?_)
 rcases hk with hk | hk
 ·rw [e]; exact hk
 ·omega
structure AnyTo {α : Type} (f : α → Bool) (l : List α) (k : Nat) : Prop where
 eq : l.any f = (l.drop k).any f
theorem AnyTo.start {α : Type} (f : α → Bool) (l : List α) : AnyTo f l 0 := ⟨rfl⟩
theorem AnyTo.round {α : Type} {f : α → Bool} {l : List α} {k : Nat} (h : AnyTo f l k) (hk : k < l.length) : (f l[k] = true ∧ l.any f = true) ∨ (f l[k] = false ∧ AnyTo f l (k + 1)) := by
 have e := h.eq
 rw [List.drop_eq_getElem_cons hk, List.any_cons] at e
 cases hb : f l[k] with
 | true => rw [hb] at e; exact .inl ⟨rfl, by simpa using e⟩
 | false => rw [hb] at e; exact .inr ⟨rfl, ⟨by simpa using e⟩⟩
theorem AnyTo.done {α : Type} {f : α → Bool} {l : List α} {k : Nat} (h : AnyTo f l k) (hk : ¬ k < l.length) : l.any f = false := by
 rw [h.eq, List.drop_of_length_le (by omega)]; rfl
abbrev encU (n : Int) : List Value := [.int .u64 n]
abbrev SlU (w : World) (D : Nat → Prop) (v : Value) (l : List Int) : Prop := Slc 1 encU w D v l
theorem rdU_at {w : World} {A : Option Addr} {l : List Int} (h : Rd 1 encU w A l) {k : Nat} (hk : k < l.length) :
  ∃ b off, A = some ⟨b, off, none⟩ ∧ w.cell? ⟨b, off + k, none⟩ = some (.int .u64 l[k]) := by
 obtain ⟨b, off, e, h⟩ := h k l[k] (List.getElem?_eq_getElem hk)
 refine ⟨b, off, e, ?_⟩
 have := h 0 _ rfl
 simpa using this
theorem encU_len (x : Int) : (encU x).length = 1 := rfl
theorem ownsRow_blk {w : World} {B sz n : Nat} {e : TypeId} {v : Value} {xs : List Value} (h : w.ownsRow B e sz v n xs) (k : Nat) (hk : v.ownBlock = some k) : B ≤ k ∧ k < w.heap.size := by
 rcases h.2 with ⟨rfl, _⟩ | ⟨g, cap, cur, rfl, hg, hh, _⟩
 ·cases hk
 ·simp [Value.ownBlock] at hk
  subst hk
  exact ⟨hg, (Array.getElem?_eq_some_iff.1 hh).1⟩
theorem ownsRow_move {w w' : World} {B sz n : Nat} {e : TypeId} {v : Value} {xs : List Value} (h : w.ownsRow B e sz v n xs) (hb : ∀ k, v.ownBlock = some k → w'.heap[k]? = w.heap[k]?) : w'.ownsRow B e sz v n xs := by
 refine ⟨h.1, ?_⟩
 rcases h.2 with h1 | ⟨g, cap, cur, rfl, hg, hh, r⟩
 ·exact .inl h1
 ·exact .inr ⟨g, cap, cur, rfl, hg, (hb g rfl).trans hh, r⟩
theorem info_u64 : (Tryz.prog.info? 34).map (fun i => (i.zero, i.size, i.bytes)) = some (some (.int .u64 0), 1, 8) := by kernel_rfl
theorem wpList_app2 {P : Program} {w0 w : World} {ops : Array Oper} {rest : List Oper} {o : Oper} {a : Act} {Q : Exit → Act → World → Prop} (base : Nat) (hgd : o.guard = none) (s x : Operand) (t e : TypeId) (z : Value) (size bytes m : Nat) (news : List Value)
  (ho : o.op = .call { callee := .builtin .append, args := #[s, x], argTypes := #[t, t] })
  (ht : P.underlying t = some (.slice e)) (hinfo : (P.info? e).map (fun i => (i.zero, i.size, i.bytes)) = some (some z, size, bytes)) (hz : z.cells.size = size) (hs0 : 0 < size) (hb0 : 0 < bytes)
  (v y : Value) (n : Nat) (xs : List Value) (hs : a.eval s = v) (hxe : a.eval x = y) (hx : SrcAt w y m size news)
  (HO : w.ownsRow base e size v n xs) (HB : Below base w0 w) (hbase : base ≤ w.heap.size) (hl : (n + m) * bytes ≤ 140737488355328)
  (h : ∀ v1 w1, w1.ownsRow base e size v1 (n + m) (xs ++ news) → Below base w0 w1 → w.grownBy w1 v.ownBlock → (v1.ownBlock = v.ownBlock ∨ v1.ownBlock = some w.heap.size) → wpList P ops Q rest (a.put o.dst v1) w1) :
  wpList P ops Q (o :: rest) a w :=
 wpList_app base hgd s x t e z size bytes m news ho ht hinfo hz hs0 hb0 v n xs hs (by rw [hxe]; exact hx) HO HB hbase hl h
structure Mt where
 kind : Int
 n : ByteArray
 v : ByteArray
def Mt.enc (x : Mt) : List Value := [.int .i64 x.kind, .string x.n, .string x.v]
theorem rdM_at {w : World} {A : Option Addr} {l : List Mt} (h : Rd 3 Mt.enc w A l) {k : Nat} (hk : k < l.length) :
  ∃ b off, A = some ⟨b, off, none⟩ ∧ w.cell? ⟨b, off + k * 3, none⟩ = some (.int .i64 l[k].kind) ∧ w.cell? ⟨b, off + k * 3 + 1, none⟩ = some (.string l[k].n) ∧ w.cell? ⟨b, off + k * 3 + 2, none⟩ = some (.string l[k].v) := by
 obtain ⟨b, off, e, h⟩ := h k l[k] (List.getElem?_eq_getElem hk)
 exact ⟨b, off, e, h 0 _ rfl, h 1 _ rfl, h 2 _ rfl⟩
theorem Apart.cell {P : Nat → Prop} {w w' : World} (h : Apart P w w') {g i : Nat} (hg : ¬ P g) {v : Value} (hc : w.cell? ⟨g, i, none⟩ = some v) : w'.cell? ⟨g, i, none⟩ = some v := by
 have hlt : g < w.heap.size := World.block_lt_of_cell? w ⟨g, i, none⟩ hc
 have hh := h.block g hlt hg
 unfold World.cell? at *
 rw [hh]; exact hc
theorem apart_below {w w1 w2 : World} {P : Nat → Prop} (h : Below w.heap.size w w1) (hA : Apart P w1 w2) (hP : ∀ k, P k → w.heap.size ≤ k) : Below w.heap.size w w2 := by
 refine ⟨hA.os.trans h.os, hA.tape.trans h.tape, hA.output.trans h.output, Nat.le_trans h.size hA.size, fun k hk => ?_⟩
 rw [hA.block k (Nat.lt_of_lt_of_le hk h.size) (fun hp => by have := hP k hp; omega)]
 exact h.block k hk
theorem own_base {w : World} {base base' n sz : Nat} {e : TypeId} {v : Value} {xs : List Value} (h : w.ownsRow base e sz v n xs) (hb : base' ≤ base) : w.ownsRow base' e sz v n xs := by
 refine ⟨h.1, ?_⟩
 rcases h.2 with h1 | ⟨g, cap, cur, rfl, hg, r⟩
 ·exact .inl h1
 ·exact .inr ⟨g, cap, cur, rfl, Nat.le_trans hb hg, r⟩
end Go.Proofs.YtlhmdgaohonpbaaGreatDoor
