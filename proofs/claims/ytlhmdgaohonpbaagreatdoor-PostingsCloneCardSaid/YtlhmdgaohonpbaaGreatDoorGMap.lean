import Derived.Maps.Own
import Derived.Maps.OwnOps
import Derived.Maps.OwnSet
import Derived.Maps.RangeRun
import Derived.OwnWalk
set_option linter.unusedSimpArgs false
set_option linter.unusedVariables false
set_option linter.unusedSectionVars false
namespace Go.Proofs.YtlhmdgaohonpbaaGreatDoor.MapRaw
open Go Go.ChangeMaps
section lists
variable {κ ν : Type} [DecidableEq κ]
def mget : List (κ × ν) → κ → Option ν
 | [], _ => none
 | p :: r, a => if p.1 = a then some p.2 else mget r a
def mput : List (κ × ν) → κ → ν → List (κ × ν)
 | [], a, x => [(a, x)]
 | p :: r, a, x => if p.1 = a then (a, x) :: r else p :: mput r a x
def mdel : List (κ × ν) → κ → List (κ × ν)
 | [], _ => []
 | p :: r, a => if p.1 = a then r else p :: mdel r a
theorem mget_none {m : List (κ × ν)} {a : κ} : mget m a = none ↔ a ∉ m.map (·.1) := by
 induction m with
 | nil => simp [mget]
 | cons p r ih =>
  simp only [mget, List.map_cons, List.mem_cons, not_or]
  by_cases h : p.1 = a
  ·simp [h]
  ·simp [h, ih, Ne.symm h, eq_comm]
theorem mput_keys_mem {m : List (κ × ν)} {a b : κ} {x : ν} : b ∈ (mput m a x).map (·.1) ↔ b = a ∨ b ∈ m.map (·.1) := by
 induction m with
 | nil => simp [mput]
 | cons p r ih =>
  simp only [mput]
  split
  ·rename_i h; subst h; simp
  ·simp only [List.map_cons, List.mem_cons, ih]; constructor <;> (rintro (h | h | h) <;> simp [h])
theorem mput_nodup {m : List (κ × ν)} (h : (m.map (·.1)).Nodup) (a : κ) (x : ν) : ((mput m a x).map (·.1)).Nodup := by
 induction m with
 | nil => simp [mput]
 | cons p r ih =>
  simp only [List.map_cons, List.nodup_cons] at h
  simp only [mput]
  split
  ·rename_i e; subst e; simpa using h
  ·rename_i e
   simp only [List.map_cons, List.nodup_cons]
   refine ⟨fun hm => ?_, ih h.2⟩
   rcases mput_keys_mem.1 hm with hm | hm
   ·exact e hm
   ·exact h.1 hm
theorem mdel_sub {m : List (κ × ν)} {a b : κ} (h : b ∈ (mdel m a).map (·.1)) : b ∈ m.map (·.1) := by
 induction m with
 | nil => simp [mdel] at h
 | cons p r ih =>
  simp only [mdel] at h
  split at h
  ·simp [h]
  ·simp only [List.map_cons, List.mem_cons] at h ⊢
   rcases h with h | h
   ·exact .inl h
   ·exact .inr (ih h)
theorem mdel_nodup {m : List (κ × ν)} (h : (m.map (·.1)).Nodup) (a : κ) : ((mdel m a).map (·.1)).Nodup := by
 induction m with
 | nil => simp [mdel]
 | cons p r ih =>
  simp only [List.map_cons, List.nodup_cons] at h
  simp only [mdel]
  split
  ·exact h.2
  ·simp only [List.map_cons, List.nodup_cons]
   exact ⟨fun hm => h.1 (mdel_sub hm), ih h.2⟩
theorem mget_put (m : List (κ × ν)) (a b : κ) (x : ν) : mget (mput m a x) b = if a = b then some x else mget m b := by
 induction m with
 | nil => simp [mput, mget]
 | cons p r ih =>
  simp only [mput]
  split
  ·rename_i e
   by_cases hb : a = b
   ·subst hb; simp [mget]
   ·simp [mget, hb, e]
  ·rename_i e
   by_cases hb : p.1 = b
   ·have : a ≠ b := fun h => e (hb.trans h.symm)
    simp [mget, hb, this]
   ·simp [mget, hb, ih]
theorem mget_del {m : List (κ × ν)} (h : (m.map (·.1)).Nodup) (a b : κ) : mget (mdel m a) b = if a = b then none else mget m b := by
 induction m with
 | nil => simp [mdel, mget]
 | cons p r ih =>
  simp only [List.map_cons, List.nodup_cons] at h
  simp only [mdel]
  split
  ·rename_i e
   by_cases hb : a = b
   ·subst hb; subst e; simp [mget_none.2 h.1]
   ·simp [mget, hb, e]
  ·rename_i e
   by_cases hb : p.1 = b
   ·have : a ≠ b := fun h => e (hb.trans h.symm)
    simp [mget, hb, this]
   ·simp [mget, hb, ih h.2]
theorem mput_new {m : List (κ × ν)} {a : κ} (h : mget m a = none) (x : ν) : mput m a x = m ++ [(a, x)] := by
 induction m with
 | nil => rfl
 | cons p r ih =>
  simp only [mget] at h
  split at h
  ·cases h
  ·rename_i e; simp [mput, e, ih h]
theorem mput_put (m : List (κ × ν)) (a : κ) (x y : ν) : mput (mput m a x) a y = mput m a y := by
 induction m with
 | nil => simp [mput]
 | cons p r ih =>
  by_cases e : p.1 = a
  ·simp [mput, e]
  ·simp [mput, e, ih]
theorem mget_mem {m : List (κ × ν)} {a : κ} {x : ν} (h : mget m a = some x) : (a, x) ∈ m := by
 induction m with
 | nil => simp [mget] at h
 | cons p r ih =>
  simp only [mget] at h
  by_cases e : p.1 = a
  ·simp only [e, if_true, Option.some.injEq] at h; subst h; subst e; simp
  ·simp only [e, if_false] at h; simp [ih h]
theorem mget_of_mem {m : List (κ × ν)} (hn : (m.map (·.1)).Nodup) {p : κ × ν} (h : p ∈ m) : mget m p.1 = some p.2 := by
 induction m with
 | nil => simp at h
 | cons q r ih =>
  simp only [List.map_cons, List.nodup_cons] at hn
  simp only [mget]
  rcases List.mem_cons.1 h with rfl | h
  ·simp
  ·have : q.1 ≠ p.1 := fun e => hn.1 (e ▸ List.mem_map_of_mem h)
   simp [this, ih hn.2 h]
end lists
theorem ba_beq (a b : ByteArray) : (a == b) = decide (a = b) := by
 obtain ⟨x⟩ := a
 obtain ⟨y⟩ := b
 show (x == y) = _
 by_cases h : x = y
 ·subst h; simp
 ·have : ¬ (ByteArray.mk x = ByteArray.mk y) := fun e => h (by cases e; rfl)
  simp [h, this]
theorem int_beq (a b : Int) : (a == b) = decide (a = b) := by
 by_cases h : a = b <;> simp [h]
theorem dec_comm {α : Type} [DecidableEq α] (a b : α) : decide (a = b) = decide (b = a) := by
 by_cases h : a = b
 ·subst h; simp
 ·have : ¬ b = a := fun e => h e.symm
  simp [h, this]
structure KeyK (P : Program) (kt : TypeId) (κ : Type) [DecidableEq κ] (ek : κ → Value) (okk : κ → Prop) : Prop where
 inj : ∀ a b, ek a = ek b → a = b
 bits : ∀ a, Instr.sameBits 10000 (ek a) (ek a) = true
 check : ∀ em w a, okk a → (Instr.checkKey em 10000 kt (ek a)).run P w = .ok () w
 same : ∀ w a (es : List MapEntry) (ks : List κ), es.map (·.key) = ks.map ek → okk a → (∀ k ∈ ks, okk k) →
  (Instr.findKey kt (ek a) es).run P w = .ok ((ks.idxOf? a).bind fun i => (es[i]?).map fun e => (i, e.val)) w
theorem findNow_ix {κ : Type} [DecidableEq κ] {kd : TypeDesc} {ek : κ → Value} (hs : ∀ a b, Instr.sameNow kd (ek a) (ek b) = some (decide (b = a))) (a : κ) :
  ∀ (es : List MapEntry) (ks : List κ) (i : Nat), es.map (·.key) = ks.map ek → Instr.findNow kd (ek a) es i = some ((ks.idxOf? a).bind fun j => (es[j]?).map fun e => (j + i, e.val)) := by
 intro es
 induction es with
 | nil => intro ks i h; cases ks with
  | nil => simp [Instr.findNow]
  | cons => simp at h
 | cons e es ih =>
  intro ks i h
  cases ks with
  | nil => simp at h
  | cons k ks =>
   simp only [List.map_cons, List.cons.injEq] at h
   simp only [Instr.findNow, h.1, hs, List.idxOf?_cons]
   by_cases hk : k = a
   ·simp [hk]
   ·have hk' : (k == a) = false := by simpa using hk
    simp only [hk, decide_false, ih ks (i + 1) h.2, hk', Bool.false_eq_true, if_false]
    cases hx : ks.idxOf? a with
    | none => simp
    | some j => simp; congr 1; funext e; congr 1; omega
theorem key_int {P : Program} {kt : TypeId} {q : IntKind} (hk : P.underlying kt = some (.int q)) : KeyK P kt Int (fun n => .int q n) (fun _ => True) where
 inj := fun a b h => by simpa using h
 bits := fun a => by unfold Instr.sameBits; simp
 check := fun em w a _ => by unfold Instr.checkKey; simp [run_underlying hk]
 same := fun w a es ks h _ _ => by
  have := findNow_ix (kd := .int q) (ek := fun n : Int => Value.int q n) (fun a b => by simp only [Instr.sameNow, if_true, int_beq]; rw [dec_comm]) a es ks 0 h
  unfold Instr.findKey
  simp [run_underlying hk, this]
theorem key_string {P : Program} {kt : TypeId} (hk : P.underlying kt = some .string) : KeyK P kt ByteArray (fun s => .string s) (fun _ => True) where
 inj := fun a b h => by simpa using h
 bits := fun a => by show (a == a) = true; simp [ba_beq]
 check := fun em w a _ => by unfold Instr.checkKey; simp [run_underlying hk]
 same := fun w a es ks h _ _ => by
  have := findNow_ix (kd := .string) (ek := fun s : ByteArray => Value.string s) (fun a b => by simp only [Instr.sameNow, ba_beq]; rw [dec_comm]) a es ks 0 h
  unfold Instr.findKey
  simp [run_underlying hk, this]
def ekPair (p : ByteArray × ByteArray) : Value := .agg #[.string p.1, .string p.2]
theorem isAgg_string {P : Program} {t : TypeId} (ht : P.underlying t = some .string) (w : World) : (isAgg t).run P w = .ok false w := by
 unfold isAgg
 simp [run_underlying ht]
theorem run_part_string {P : Program} {t : TypeId} (ht : P.underlying t = some .string) (w : World) (cs : Array Value) (i : Nat) (v : Value) (h : cs[i]? = some v) : (part t cs i).run P w = .ok v w := by
 unfold part
 simp [isAgg_string ht, h]
theorem run_eq_pair {P : Program} {kt : TypeId} {f0 f1 : Field} (hk : P.underlying kt = some (.struct #[f0, f1])) (hp : P.stoodInHeld kt = false)
  (hn0 : f0.name ≠ "_") (hn1 : f1.name ≠ "_") (ho0 : f0.offset = 0) (ho1 : f1.offset = 1) (ht0 : P.underlying f0.type = some .string) (ht1 : P.underlying f1.type = some .string)
  (w : World) (a b : ByteArray × ByteArray) : (Op.equal kt (ekPair a) (ekPair b)).run P w = .ok (decide (a = b)) w := by
 have hf : P.fieldsOf kt = #[f0, f1] := by simp [Program.fieldsOf, hk]
 unfold Op.equal Op.maxDepth ekPair
 rw [run_equalIn_struct w 9999 kt _ _ (by rw [hf, hk]) hp, hf]
 simp only [Op.eqFields, ne_eq, hn0, hn1, not_false_eq_true, if_true, ho0, ho1, Sem.run_bind]
 rw [run_part_string ht0 w _ _ (.string a.1) (by simp)]
 simp only [Result.andThen_ok]
 rw [run_part_string ht0 w _ _ (.string b.1) (by simp)]
 simp only [Result.andThen_ok]
 rw [run_equalIn_string w 9998 f0.type a.1 b.1 ht0]
 simp only [Result.andThen_ok, ← beq_toListBytes]
 by_cases h0 : a.1 = b.1
 ·have e0 : (a.1 == b.1) = true := by simpa [ba_beq] using h0
  simp only [e0, Bool.not_true, Bool.false_eq_true, if_false, Sem.run_bind]
  rw [run_part_string ht1 w _ _ (.string a.2) (by simp)]
  simp only [Result.andThen_ok]
  rw [run_part_string ht1 w _ _ (.string b.2) (by simp)]
  simp only [Result.andThen_ok]
  rw [run_equalIn_string w 9998 f1.type a.2 b.2 ht1]
  simp only [Result.andThen_ok, ← beq_toListBytes]
  by_cases h1 : a.2 = b.2
  ·have e1 : (a.2 == b.2) = true := by simpa [ba_beq] using h1
   have : a = b := Prod.ext h0 h1
   have e2 : (b.2 == b.2) = true := by simp [ba_beq]
   simp only [this, e2, Bool.not_true, Bool.false_eq_true, if_false, Sem.run_pure, decide_true]
  ·have e1 : (a.2 == b.2) = false := by simpa [ba_beq] using h1
   have : a ≠ b := fun h => h1 (by rw [h])
   simp [e1, this]
 ·have e0 : (a.1 == b.1) = false := by simpa [ba_beq] using h0
  have : a ≠ b := fun h => h0 (by rw [h])
  simp [e0, this]
theorem findAsking_ix {P : Program} {kt : TypeId} {κ : Type} [DecidableEq κ] {ek : κ → Value} (hs : ∀ w a b, (Op.equal kt (ek a) (ek b)).run P w = .ok (decide (a = b)) w) (a : κ) (w : World) :
  ∀ (es : List MapEntry) (ks : List κ) (i : Nat), es.map (·.key) = ks.map ek → (Instr.findAsking kt (ek a) es i).run P w = .ok ((ks.idxOf? a).bind fun j => (es[j]?).map fun e => (j + i, e.val)) w := by
 intro es
 induction es with
 | nil => intro ks i h; cases ks with
  | nil => simp [Instr.findAsking]
  | cons => simp at h
 | cons e es ih =>
  intro ks i h
  cases ks with
  | nil => simp at h
  | cons k ks =>
   simp only [List.map_cons, List.cons.injEq] at h
   simp only [Instr.findAsking, Sem.run_bind, h.1, hs, Result.andThen_ok, List.idxOf?_cons]
   by_cases hk : k = a
   ·simp [hk]
   ·have hk' : (k == a) = false := by simpa using hk
    have hk2 : ¬ a = k := fun h => hk h.symm
    simp only [hk2, decide_false, ih ks (i + 1) h.2, hk', Bool.false_eq_true, if_false]
    cases hx : ks.idxOf? a with
    | none => simp
    | some j => simp; congr 1; funext e; congr 1; omega
theorem key_pair {P : Program} {kt : TypeId} {f0 f1 : Field} (hk : P.underlying kt = some (.struct #[f0, f1])) (hp : P.stoodInHeld kt = false)
  (hn0 : f0.name ≠ "_") (hn1 : f1.name ≠ "_") (ho0 : f0.offset = 0) (ho1 : f1.offset = 1) (ht0 : P.underlying f0.type = some .string) (ht1 : P.underlying f1.type = some .string) :
  KeyK P kt (ByteArray × ByteArray) ekPair (fun _ => True) where
 inj := fun a b h => by
  simp only [ekPair, Value.agg.injEq] at h
  have h0 := congrArg (fun l : Array Value => l[0]?) h
  have h1 := congrArg (fun l : Array Value => l[1]?) h
  simp at h0 h1
  exact Prod.ext h0 h1
 bits := fun a => by simp [ekPair, Instr.sameBits, ba_beq]
 check := fun em w a _ => by
  unfold Instr.checkKey ekPair
  simp only [Sem.run_bind, run_underlying hk, Result.andThen_ok]
  rw [← Array.forIn_toList]
  simp only [List.forIn_cons, List.forIn_nil, ne_eq, hn0, hn1, not_false_eq_true, if_true, ho0, ho1, Sem.run_bind]
  rw [run_part_string ht0 w _ _ (.string a.1) (by simp)]
  simp only [Result.andThen_ok]
  have c0 : (Instr.checkKey em 9999 f0.type (.string a.1)).run P w = .ok () w := by unfold Instr.checkKey; simp [run_underlying ht0]
  have c1 : (Instr.checkKey em 9999 f1.type (.string a.2)).run P w = .ok () w := by unfold Instr.checkKey; simp [run_underlying ht1]
  simp only [Sem.run_bind, c0, Result.andThen_ok, Sem.run_pure]
  rw [run_part_string ht1 w _ _ (.string a.2) (by simp)]
  simp [c1]
 same := fun w a es ks h _ _ => by
  unfold Instr.findKey
  simp only [Sem.run_bind, run_underlying hk, Result.andThen_ok]
  have hs := run_eq_pair hk hp hn0 hn1 ho0 ho1 ht0 ht1
  cases es with
  | nil =>
   cases ks with
   | nil => simp [Instr.findNow]
   | cons => simp at h
  | cons e es =>
   cases ks with
   | nil => simp at h
   | cons k ks =>
    have hnow : Instr.findNow (.struct #[f0, f1]) (ekPair a) (e :: es) 0 = none := by
     simp [Instr.findNow, Instr.sameNow]
    simp only [hnow]
    have := findAsking_ix hs a w (e :: es) (k :: ks) 0 h
    simpa using this
section world
variable {κ ν : Type} [DecidableEq κ]
structure IsMap (ek : κ → Value) (ev : ν → Value → Prop) (es : Array MapEntry) (clock : Nat) (m : List (κ × ν)) : Prop where
 keys : es.toList.map (·.key) = m.map fun p => ek p.1
 vals : ∀ (i : Nat) (e : MapEntry) (p : κ × ν), es.toList[i]? = some e → m[i]? = some p → ev p.2 e.val
 nd : (m.map (·.1)).Nodup
 born : ∀ e ∈ es.toList, e.born < clock
 bnd : (es.toList.map (·.born)).Nodup
def MapAt (w : World) (ek : κ → Value) (ev : ν → Value → Prop) (b : Nat) (m : List (κ × ν)) : Prop :=
 ∃ es clock, w.heap[b]? = some (.map es clock) ∧ IsMap ek ev es clock m
variable {ek : κ → Value} {ev : ν → Value → Prop} {es : Array MapEntry} {clock : Nat} {m : List (κ × ν)}
theorem IsMap.len (h : IsMap ek ev es clock m) : es.toList.length = m.length := by
 have := congrArg List.length h.keys
 simpa using this
theorem IsMap.empty : IsMap ek ev #[] 0 ([] : List (κ × ν)) := ⟨rfl, by simp, by simp, by simp, by simp⟩
theorem IsMap.imp {ev' : ν → Value → Prop} (h : IsMap ek ev es clock m) (hv : ∀ p ∈ m, ∀ v, ev p.2 v → ev' p.2 v) : IsMap ek ev' es clock m :=
 ⟨h.keys, fun i e p he hp => hv p (List.mem_of_getElem? hp) _ (h.vals i e p he hp), h.nd, h.born, h.bnd⟩
theorem idx_get {m : List (κ × ν)} {a : κ} : (m.map (·.1)).idxOf? a = none ∧ mget m a = none ∨ ∃ i p, (m.map (·.1)).idxOf? a = some i ∧ m[i]? = some p ∧ p.1 = a ∧ mget m a = some p.2 ∧ i < m.length := by
 induction m with
 | nil => simp [mget]
 | cons q r ih =>
  simp only [List.map_cons, List.idxOf?_cons, mget]
  by_cases e : q.1 = a
  ·right
   have e' : (q.1 == a) = true := by simpa using e
   exact ⟨0, q, by simp [e'], by simp, e, by simp [e], by simp⟩
  ·have e' : (q.1 == a) = false := by simpa using e
   rcases ih with ⟨h1, h2⟩ | ⟨i, p, h1, h2, h3, h4, h5⟩
   ·left; simp [e', h1, e, h2]
   ·right; exact ⟨i + 1, p, by simp [e', h1], by simpa using h2, h3, by simp [e, h4], by simpa using h5⟩
theorem keyThatStays_same {P : Program} {w : World} {v : Value} (hv : Instr.sameBits 10000 v v = true) : (Instr.keyThatStays v v).run P w = .ok v w := by
 unfold Instr.keyThatStays
 simp [hv]
theorem set_same_key (es : Array MapEntry) (i : Nat) (e : MapEntry) (he : es.toList[i]? = some e) (v : Value) :
  (es.modify i fun e' => { e' with key := e.key, val := v }) = es.modify i fun e' => { e' with val := v } := by
 apply Array.ext'
 apply List.ext_getElem?
 intro j
 simp only [Array.toList_modify, List.getElem?_modify]
 by_cases hj : i = j
 ·subst hj; simp [he]
 ·simp [hj]
theorem mput_eq_set {m : List (κ × ν)} {i : Nat} {a : κ} {x y : ν} (hn : (m.map (·.1)).Nodup) (h : m[i]? = some (a, x)) : mput m a y = m.set i (a, y) := by
 induction m generalizing i with
 | nil => simp at h
 | cons p r ih =>
  simp only [List.map_cons, List.nodup_cons] at hn
  cases i with
  | zero =>
   simp at h; subst h; simp [mput]
  | succ i =>
   simp at h
   have hne : p.1 ≠ a := fun e => hn.1 (by rw [e]; exact List.mem_map.2 ⟨(a, x), List.mem_of_getElem? h, rfl⟩)
   simp [mput, hne, ih hn.2 h]
theorem IsMap.set {i : Nat} {e : MapEntry} {a : κ} {x y : ν} {v : Value} (h : IsMap ek ev es clock m) (he : es.toList[i]? = some e) (hk : e.key = ek a) (hm : m[i]? = some (a, x)) (hv : ev y v) :
  IsMap ek ev (es.modify i fun e' => { e' with val := v }) clock (mput m a y) := by
 rw [mput_eq_set h.nd hm]
 have hb : ((es.modify i fun e' => { e' with val := v }).toList.map (·.born)) = es.toList.map (·.born) := by
  apply List.ext_getElem?
  intro j
  simp only [Array.toList_modify, List.getElem?_map, List.getElem?_modify]
  by_cases hj : i = j
  ·subst hj; simp [he]
  ·simp [hj]
 have hkk : ((es.modify i fun e' => { e' with val := v }).toList.map (·.key)) = es.toList.map (·.key) := by
  apply List.ext_getElem?
  intro j
  simp only [Array.toList_modify, List.getElem?_map, List.getElem?_modify]
  by_cases hj : i = j
  ·subst hj; simp [he]
  ·simp [hj]
 have hk1 : (m.set i (a, y)).map (·.1) = m.map (·.1) := by
  apply List.ext_getElem?
  intro j
  simp only [List.getElem?_map, List.getElem?_set]
  by_cases hj : i = j
  ·subst hj
   have hlt : i < m.length := (List.getElem?_eq_some_iff.1 hm).1
   rw [if_pos rfl, if_pos hlt, hm]; rfl
  ·simp [hj]
 refine ⟨?_, ?_, by rw [hk1]; exact h.nd, ?_, by rw [hb]; exact h.bnd⟩
 ·rw [hkk, h.keys]
  have : (m.map fun p => ek p.1) = (m.map (·.1)).map ek := by simp
  rw [this, ← hk1, List.map_map]; rfl
 ·intro j e1 p1 he1 hp1
  simp only [Array.toList_modify, List.getElem?_modify, List.getElem?_set] at he1 hp1
  by_cases hj : i = j
  ·subst hj
   have hlt : i < m.length := (List.getElem?_eq_some_iff.1 hm).1
   simp [he] at he1
   simp [hlt] at hp1
   subst he1; subst hp1; exact hv
  ·simp [hj] at he1 hp1
   exact h.vals j e1 p1 (by simpa using he1) hp1
 ·intro e1 he1
  have : e1.born ∈ es.toList.map (·.born) := by rw [← hb]; exact List.mem_map_of_mem he1
  obtain ⟨e2, h2, h3⟩ := List.mem_map.1 this
  rw [← h3]; exact h.born e2 h2
theorem IsMap.push {a : κ} {x : ν} {v : Value} (h : IsMap ek ev es clock m) (hm : mget m a = none) (hv : ev x v) : IsMap ek ev (es.push { key := ek a, val := v, born := clock }) (clock + 1) (m ++ [(a, x)]) := by
 have hl := h.len
 refine ⟨by simp [h.keys], ?_, ?_, ?_, ?_⟩
 ·intro i e p he hp
  simp only [Array.toList_push] at he
  by_cases hi : i < m.length
  ·rw [List.getElem?_append_left (by omega)] at he
   rw [List.getElem?_append_left hi] at hp
   exact h.vals i e p he hp
  ·rw [List.getElem?_append_right (by omega)] at he hp
   rw [hl] at he
   have : i - m.length = 0 := by
    have := (List.getElem?_eq_some_iff.1 hp).1
    simp at this; omega
   simp [this] at he hp
   subst he; subst hp; exact hv
 ·rw [List.map_append, List.nodup_append]
  refine ⟨h.nd, by simp, ?_⟩
  intro k hk k' hk' e
  simp at hk'
  subst hk'; subst e
  exact mget_none.1 hm hk
 ·intro e he
  simp at he
  rcases he with he | rfl
  ·have := h.born e (by simpa using he); omega
  ·simp
 ·simp only [Array.toList_push, List.map_append, List.nodup_append]
  refine ⟨h.bnd, by simp, ?_⟩
  intro k hk k' hk' e
  simp at hk'
  subst hk'; subst e
  obtain ⟨e1, h1, h2⟩ := List.mem_map.1 hk
  have := h.born e1 h1; omega
theorem IsMap.erase {i : Nat} {a : κ} {x : ν} (h : IsMap ek ev es clock m) (hm : m[i]? = some (a, x)) : IsMap ek ev (es.eraseIdxIfInBounds i) clock (mdel m a) := by
 have hd : mdel m a = m.eraseIdx i := by
  have hn := h.nd
  clear h
  induction m generalizing i with
  | nil => simp at hm
  | cons p r ih =>
   simp only [List.map_cons, List.nodup_cons] at hn
   cases i with
   | zero => simp at hm; subst hm; simp [mdel]
   | succ i =>
    simp at hm
    have hne : p.1 ≠ a := fun e => hn.1 (by rw [e]; exact List.mem_map.2 ⟨(a, x), List.mem_of_getElem? hm, rfl⟩)
    simp [mdel, hne, ih hm hn.2]
 have he : (es.eraseIdxIfInBounds i).toList = es.toList.eraseIdx i := by simp
 refine ⟨?_, ?_, mdel_nodup h.nd a, ?_, ?_⟩
 ·rw [he, hd]
  have e1 : (es.toList.eraseIdx i).map (·.key) = (es.toList.map (·.key)).eraseIdx i := map_eraseIdx _ _ _
  have e2 : (m.eraseIdx i).map (fun p => ek p.1) = (m.map fun p => ek p.1).eraseIdx i := map_eraseIdx _ _ _
  rw [e1, e2, h.keys]
 ·intro j e p h1 h2
  rw [he] at h1
  rw [hd] at h2
  rw [List.getElem?_eraseIdx] at h1 h2
  split at h1
  ·exact h.vals _ _ _ h1 (by rw [if_pos ‹_›] at h2; exact h2)
  ·exact h.vals _ _ _ h1 (by rw [if_neg ‹_›] at h2; exact h2)
 ·intro e h1
  rw [he] at h1
  exact h.born e (List.mem_of_mem_eraseIdx h1)
 ·rw [he]
  have e1 : (es.toList.eraseIdx i).map (·.born) = (es.toList.map (·.born)).eraseIdx i := map_eraseIdx _ _ _
  rw [e1]
  exact List.Nodup.sublist (List.eraseIdx_sublist _ _) h.bnd
theorem mdel_none {m : List (κ × ν)} {a : κ} (h : mget m a = none) : mdel m a = m := by
 induction m with
 | nil => rfl
 | cons p r ih =>
  simp only [mget] at h
  split at h
  ·cases h
  ·rename_i e; simp [mdel, e, ih h]
theorem run_len {P : Program} {t kt et ty : TypeId} (ht : P.underlying t = some (.map kt et)) {w : World} {b : Nat} (hb : w.heap[b]? = some (.map es clock)) (h : IsMap ek ev es clock m) :
  (Builtin.len_ #[t] ty #[.map (some b)]).run P w = .ok (.int .i64 m.length) w := by
 unfold Builtin.len_
 simp only [Sem.run_bind, List.getElem?_toArray, List.getElem?_cons_zero, run_underlying ht, Result.andThen_ok, MapKept.run_getObj_map hb, Sem.run_pure, ← h.len]
 rfl
def leftM (es : Array MapEntry) (seen : Array Nat) (m : List (κ × ν)) : List (κ × ν) := ((m.zip es.toList).filter fun p => !seen.contains p.2.born).map (·.1)
def IterAt (w : World) (ek : κ → Value) (ev : ν → Value → Prop) (r b : Nat) (m left : List (κ × ν)) : Prop :=
 ∃ es clock seen, w.heap[b]? = some (.map es clock) ∧ IsMap ek ev es clock m ∧ w.heap[r]? = some (.mapIter (some b) clock seen clock) ∧ left = leftM es seen m
theorem zip_left (h : IsMap ek ev es clock m) : leftM es #[] m = m := by
 unfold leftM
 simp only [List.filter_eq_self.2 (fun (p : (κ × ν) × MapEntry) (_ : p ∈ m.zip es.toList) => by simp : ∀ p ∈ m.zip es.toList, (!(#[] : Array Nat).contains p.2.born) = true)]
 rw [← List.unzip_fst, List.unzip_zip_left (by rw [h.len]; exact Nat.le_refl _)]
theorem run_range {P : Program} {t kt et : TypeId} (ht : P.underlying t = some (.map kt et)) {w : World} {b : Nat} (hb : w.heap[b]? = some (.map es clock)) (h : IsMap ek ev es clock m) :
  (Instr.range t (.map (some b))).run P w = .ok (.pointer (some ⟨w.heap.size, 0, none⟩)) (w.alloc (.mapIter (some b) clock #[] clock)) ∧ IterAt (w.alloc (.mapIter (some b) clock #[] clock)) ek ev w.heap.size b m m := by
 refine ⟨?_, es, clock, #[], ?_, h, (MapKept.heap_alloc w _).1, (zip_left h).symm⟩
 ·unfold Instr.range
  simp only [Sem.run_bind, run_underlying ht, Result.andThen_ok, MapKept.run_getObj_map hb, Sem.run_pure, run_newObj]
  rfl
 ·rw [(MapKept.heap_alloc w _).2 b (Array.getElem?_eq_some_iff.1 hb).1]; exact hb
theorem filter_one_out {α : Type} (f : α × MapEntry → Bool) (x : α × MapEntry) : ∀ l : List (α × MapEntry), (l.map (·.2.born)).Nodup → x ∈ l → f x = true → (l.filter f).Perm (x :: l.filter fun y => f y && !(y.2.born == x.2.born))
 | [], _, h, _ => by simp at h
 | y :: r, hn, h, hf => by
  simp only [List.map_cons, List.nodup_cons] at hn
  rcases List.mem_cons.1 h with rfl | h
  ·have e1 : (r.filter fun z => f z && !(z.2.born == x.2.born)) = r.filter f := by
    apply List.filter_congr
    intro z hz
    have : z.2.born ≠ x.2.born := fun e => hn.1 (e ▸ List.mem_map_of_mem (f := fun p : α × MapEntry => p.2.born) hz)
    simp [this]
   simp only [List.filter_cons, hf, if_true, BEq.rfl, Bool.not_true, Bool.and_false, Bool.false_eq_true, if_false, e1]
   exact List.Perm.refl _
  ·have hne : y.2.born ≠ x.2.born := fun e => hn.1 (e ▸ List.mem_map_of_mem (f := fun p : α × MapEntry => p.2.born) h)
   have ih := filter_one_out f x r hn.2 h hf
   have hb : (!(y.2.born == x.2.born)) = true := by simp [hne]
   simp only [List.filter_cons, hb, Bool.and_true]
   split
   ·exact (ih.cons y).trans (List.Perm.swap _ _ _)
   ·exact ih
theorem IsMap.find_all {P : Program} {kt : TypeId} {okk : κ → Prop} (K : KeyK P kt κ ek okk) (h : IsMap ek ev es clock m) {a : κ} (ha : okk a) (hm : ∀ p ∈ m, okk p.1) :
  ((∀ w, (Instr.findKey kt (ek a) es.toList).run P w = .ok none w) ∧ mget m a = none) ∨
  ∃ i e x, (∀ w, (Instr.findKey kt (ek a) es.toList).run P w = .ok (some (i, e.val)) w) ∧ es.toList[i]? = some e ∧ e.key = ek a ∧ mget m a = some x ∧ m[i]? = some (a, x) ∧ ev x e.val := by
 have hs := fun w => K.same w a es.toList (m.map (·.1)) (by rw [h.keys, List.map_map]; rfl) ha (by intro k hk; obtain ⟨p, hp, rfl⟩ := List.mem_map.1 hk; exact hm p hp)
 rcases idx_get (m := m) (a := a) with ⟨h1, h2⟩ | ⟨i, p, h1, h2, h3, h4, h5⟩
 ·left
  exact ⟨fun w => by rw [hs, h1]; rfl, h2⟩
 ·right
  have hi : i < es.toList.length := by rw [h.len]; exact h5
  refine ⟨i, es.toList[i], p.2, (fun w => by rw [hs, h1]; simp only [Option.bind_some, List.getElem?_eq_getElem hi, Option.map_some]), List.getElem?_eq_getElem hi, ?_, h4, ?_, ?_⟩
  ·have hk := congrArg (fun l => l[i]?) h.keys
   simp only [List.getElem?_map, h2, List.getElem?_eq_getElem hi, Option.map_some, Option.some.injEq] at hk
   rw [hk, h3]
  ·rw [h2, ← h3]
  ·exact h.vals i _ p (List.getElem?_eq_getElem hi) h2
theorem lookup_all {P : Program} {t kt et : TypeId} {okk : κ → Prop} (K : KeyK P kt κ ek okk) (ht : P.underlying t = some (.map kt et)) {z : Value} (hz : ∀ w, (zeroValue et).run P w = .ok z w) (b : Nat)
  (h : IsMap ek ev es clock m) {a : κ} (ha : okk a) (hm : ∀ p ∈ m, okk p.1) :
  ∃ v, (∀ W : World, W.heap[b]? = some (.map es clock) → (Instr.lookup t (.map (some b)) (ek a) true).run P W = .ok (.tuple #[v, .bool (mget m a).isSome]) W) ∧
   (∀ W : World, W.heap[b]? = some (.map es clock) → (Instr.lookup t (.map (some b)) (ek a) false).run P W = .ok v W) ∧ (mget m a = none → v = z) ∧ (∀ x, mget m a = some x → ev x v) := by
 rcases h.find_all K ha hm with ⟨h1, h2⟩ | ⟨i, e, x, h1, _, _, h4, _, h6⟩
 ·refine ⟨z, (fun W hb => ?_), (fun W hb => ?_), (fun _ => rfl), (fun x hx => by rw [h2] at hx; cases hx)⟩
  ·unfold Instr.lookup
   simp only [Sem.run_bind, run_underlying ht, Result.andThen_ok, MapKept.run_getObj_map hb, Sem.run_pure, K.check _ _ _ ha, h1, hz, h2]
   simp
  ·unfold Instr.lookup
   simp only [Sem.run_bind, run_underlying ht, Result.andThen_ok, MapKept.run_getObj_map hb, Sem.run_pure, K.check _ _ _ ha, h1, hz]
   simp
 ·refine ⟨e.val, (fun W hb => ?_), (fun W hb => ?_), (fun hx => by rw [h4] at hx; cases hx), (fun y hy => by rw [h4] at hy; cases hy; exact h6)⟩
  ·unfold Instr.lookup
   simp only [Sem.run_bind, run_underlying ht, Result.andThen_ok, MapKept.run_getObj_map hb, Sem.run_pure, K.check _ _ _ ha, h1, h4]
   simp
  ·unfold Instr.lookup
   simp only [Sem.run_bind, run_underlying ht, Result.andThen_ok, MapKept.run_getObj_map hb, Sem.run_pure, K.check _ _ _ ha, h1]
   simp
theorem update_all {P : Program} {t kt et : TypeId} {okk : κ → Prop} (K : KeyK P kt κ ek okk) (ht : P.underlying t = some (.map kt et)) (b : Nat)
  (h : IsMap ek ev es clock m) {a : κ} (ha : okk a) (hm : ∀ p ∈ m, okk p.1) {x : ν} {v : Value} (hv : ev x v) :
  ∃ es' clock', (∀ W : World, W.heap[b]? = some (.map es clock) → (Instr.mapUpdate t (.map (some b)) (ek a) v).run P W = .ok () (setBlock W b (.map es' clock'))) ∧ IsMap ek ev es' clock' (mput m a x) := by
 rcases h.find_all K ha hm with ⟨h1, h2⟩ | ⟨i, e, y, h1, h3, hk, h4, h5, _⟩
 ·refine ⟨_, _, (fun W hb => ?_), by rw [mput_new h2]; exact h.push h2 hv⟩
  unfold Instr.mapUpdate
  simp only [Sem.run_bind, run_underlying ht, Result.andThen_ok, MapKept.run_getObj_map hb, K.check _ _ _ ha, h1, MapKept.run_setObj_map _ hb]
  rfl
 ·refine ⟨_, _, (fun W hb => ?_), h.set h3 hk h5 hv⟩
  unfold Instr.mapUpdate
  have h3' : es[i]? = some e := by simpa using h3
  have hst : (Instr.keyThatStays e.key (ek a)).run P W = .ok (ek a) W := by rw [hk]; exact keyThatStays_same (K.bits a)
  have hss : (es.modify i fun e' => { e' with key := ek a, val := v }) = es.modify i fun e' => { e' with val := v } := by rw [← hk]; exact set_same_key es i e h3 v
  simp only [Sem.run_bind, run_underlying ht, Result.andThen_ok, MapKept.run_getObj_map hb, K.check _ _ _ ha, h1, h3', Option.map_some, Option.getD_some, hst, MapKept.run_setObj_map _ hb, hss]
  rfl
theorem setBlock_grown (w : World) (b : Nat) (o : Obj) : w.grownBy (setBlock w b o) (some b) := by
 refine ⟨rfl, rfl, rfl, by simp [setBlock], fun k hk hne => ?_⟩
 have : b ≠ k := fun e => hne (by rw [e])
 simp [setBlock, Array.getElem?_setIfInBounds, this]
theorem setBlock_at {w : World} {b : Nat} (hb : b < w.heap.size) (o : Obj) : (setBlock w b o).heap[b]? = some o := by
 simp [setBlock, Array.getElem?_setIfInBounds, hb]
theorem setBlock_size (w : World) (b : Nat) (o : Obj) : (setBlock w b o).heap.size = w.heap.size := by simp [setBlock]
section
variable {P : Program} {w : World} {ops : Array Oper} {rest : List Oper} {o : Oper} {a : Act} {Q : Exit → Act → World → Prop}
theorem wpList_update_raw (hg : o.guard = none) (mm x v : Operand) (t kt et : TypeId) (hop : o.op = Op.mapUpdate t mm x v) {okk : κ → Prop} (K : KeyK P kt κ ek okk) (ht : P.underlying t = some (.map kt et))
  (b : Nat) (hb : w.heap[b]? = some (.map es clock)) (h : IsMap ek ev es clock m) (hm : a.eval mm = .map (some b)) (key : κ) (hx : a.eval x = ek key) (ha : okk key) (hok : ∀ p ∈ m, okk p.1) (y : ν) (u : Value) (hv : a.eval v = u) (hev : ev y u)
  (hK : ∀ w' es' clock', w'.heap[b]? = some (.map es' clock') → IsMap ek ev es' clock' (mput m key y) → w.grownBy w' (some b) → w'.heap.size = w.heap.size → wpList P ops Q rest (a.put o.dst undef) w') : wpList P ops Q (o :: rest) a w := by
 refine wpList_plain hg fun K' hK' => ?_
 obtain ⟨es', clock', h1, h2⟩ := update_all K ht b h ha hok hev
 unfold Oper.wp
 simp [execOp, hop, hm, hx, hv, h1 w hb, Result.andThen]
 exact hK' _ _ (hK _ es' clock' (setBlock_at (Array.getElem?_eq_some_iff.1 hb).1 _) h2 (setBlock_grown w b _) (setBlock_size w b _))
theorem wpList_len_raw (hg : o.guard = none) (mm : Operand) (t kt et : TypeId) (hop : o.op = Op.call { callee := Callee.builtin Builtin.len, args := #[mm], argTypes := #[t] }) (ht : P.underlying t = some (.map kt et))
  (b : Nat) (hb : w.heap[b]? = some (.map es clock)) (h : IsMap ek ev es clock m) (hm : a.eval mm = .map (some b))
  (hK : wpList P ops Q rest (a.put o.dst (.int .i64 m.length)) w) : wpList P ops Q (o :: rest) a w := by
 refine wpList_plain hg fun K' hK' => ?_
 unfold Oper.wp
 simp [execOp, hop, resolve, invoke, builtin, hm, run_len ht hb h, Result.andThen]
 exact hK' _ _ hK
theorem wpList_range_raw (hg : o.guard = none) (mm : Operand) (t kt et : TypeId) (hop : o.op = Op.range t mm) (ht : P.underlying t = some (.map kt et))
  (b : Nat) (hb : w.heap[b]? = some (.map es clock)) (h : IsMap ek ev es clock m) (hm : a.eval mm = .map (some b))
  (hK : ∀ w', IterAt w' ek ev w.heap.size b m m → w.grownBy w' none → w'.heap.size = w.heap.size + 1 → wpList P ops Q rest (a.put o.dst (.pointer (some ⟨w.heap.size, 0, none⟩))) w') : wpList P ops Q (o :: rest) a w := by
 refine wpList_plain hg fun K' hK' => ?_
 obtain ⟨h1, h2⟩ := run_range ht hb h
 unfold Oper.wp
 simp [execOp, hop, hm, h1, Result.andThen]
 exact hK' _ _ (hK _ h2 (World.grownBy_alloc w _ _) (by simp))
end
end world
end Go.Proofs.YtlhmdgaohonpbaaGreatDoor.MapRaw
