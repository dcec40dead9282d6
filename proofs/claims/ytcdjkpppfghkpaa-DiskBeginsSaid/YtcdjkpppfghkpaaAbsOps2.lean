/-
  Operations of the machine of values against the model's: new rows, stores.
-/
import Derived.Test.YtcdjkpppfghkpaaAbsOps
set_option linter.unusedSimpArgs false
set_option linter.unusedVariables false
namespace Go.Abs
open Go

variable {P : Program} {m : Nat → Option Nat} {Z : Nat → Prop} {h h' : Heap} {w : World} {base : Nat} {slot : Option Nat} {lb : Nat → Prop}

/-- a place for a new row is free -/
structure Free (m : Nat → Option Nat) (h : Heap) (base : Nat) (slot : Option Nat) : Prop where
  le : base ≤ h.length
  at_ : ∀ s, slot = some s → m s = none ∧ base ≤ s

/-- a run of an operation that gives a value, and what stands behind it -/
def Gives (P : Program) (m : Nat → Option Nat) (Z : Nat → Prop) (base : Nat) (slot : Option Nat) (lb : Nat → Prop) (h : Heap) (w : World) (x : Sem Value) (v : AVal) (h' : Heap) : Prop :=
  ∃ u w' m', x.run P w = .ok u w' ∧ V P m' Z w' v u ∧ HRel P m' Z h' w' ∧ Step base slot lb m Z h w m' Z h' w'

theorem Gives.same (r : HRel P m Z h w) {x : Sem Value} {v : AVal} {u : Value} (e : x.run P w = .ok u w) (hv : V P m Z w v u) : Gives P m Z base slot lb h w x v h :=
  ⟨u, w, m, e, hv, r, Step.refl _ _ _ _ _ _ _⟩

theorem V.cells {a : AVal} {v : Value} (hv : V P m Z w a v) : VS P m Z w a.cells v.cells.toList := by
  cases a with
  | agg cs => simp only [V] at hv; obtain ⟨us, rfl, h1⟩ := hv; simpa [AVal.cells, Value.cells] using h1
  | undef => simp only [AVal.cells, VS]; simp only [V] at hv; subst hv; exact ⟨_, [], rfl, by simp [V], rfl⟩
  | tup _ => simp only [AVal.cells, VS]; have h0 := hv; simp only [V] at hv; obtain ⟨us, rfl, _⟩ := hv; exact ⟨_, [], rfl, h0, rfl⟩
  | bool _ => simp only [AVal.cells, VS]; have h0 := hv; simp only [V] at hv; subst hv; exact ⟨_, [], rfl, h0, rfl⟩
  | int _ _ => simp only [AVal.cells, VS]; have h0 := hv; simp only [V] at hv; subst hv; exact ⟨_, [], rfl, h0, rfl⟩
  | str _ => simp only [AVal.cells, VS]; have h0 := hv; simp only [V] at hv; subst hv; exact ⟨_, [], rfl, h0, rfl⟩
  | nilFunc => simp only [AVal.cells, VS]; have h0 := hv; simp only [V] at hv; subst hv; exact ⟨_, [], rfl, h0, rfl⟩
  | ptr l => cases l with
    | none => simp only [AVal.cells, VS]; have h0 := hv; simp only [V] at hv; subst hv; exact ⟨_, [], rfl, h0, rfl⟩
    | some p => simp only [AVal.cells, VS]; have h0 := hv; simp only [V] at hv; obtain ⟨_, _, rfl⟩ := hv; exact ⟨_, [], rfl, h0, rfl⟩
  | cref _ => simp only [AVal.cells, VS]; have h0 := hv; simp only [V] at hv; obtain ⟨_, _, rfl, _⟩ := hv; exact ⟨_, [], rfl, h0, rfl⟩
  | own _ _ _ _ => simp only [AVal.cells, VS]; have h0 := hv; simp only [V] at hv; obtain ⟨_, _, _, _, rfl, _⟩ := hv; exact ⟨_, [], rfl, h0, rfl⟩
  | lst _ _ => simp only [AVal.cells, VS]; have h0 := hv; simp only [V] at hv; obtain ⟨_, _, rfl, _⟩ := hv; exact ⟨_, [], rfl, h0, rfl⟩
  | func _ _ _ => simp only [AVal.cells, VS]; have h0 := hv; simp only [V] at hv; obtain ⟨_, _, rfl, _⟩ := hv; exact ⟨_, [], rfl, h0, rfl⟩
  | yld _ => simp only [AVal.cells, VS]; have h0 := hv; simp only [V] at hv; obtain ⟨_, _, rfl⟩ := hv; exact ⟨_, [], rfl, h0, rfl⟩

theorem run_storeAt (r : HRel P m Z h w) {t : TypeId} {a x : AVal} {v u : Value} (e : storeA P h base t a x = some h') (ha : V P m Z w a v) (hx : V P m Z w x u) :
    ∃ w', (Instr.storeAt t v u).run P w = .ok () w' ∧ HRel P m Z h' w' ∧ Step base slot lb m Z h w m Z h' w' := by
  unfold storeA at e
  split at e
  case h_2 => cases e
  rename_i l o
  split at e
  case isFalse => cases e
  rename_i hs
  simp only [V] at ha
  obtain ⟨b, hb, rfl⟩ := ha
  have hc := hx.cells
  obtain ⟨w', h1, h2, h3⟩ := write_rel r e hc hb
  have hlen : u.cells.size = x.cells.length := by rw [← hc.length]; simp
  refine ⟨w', ?_, h2, h3⟩
  simp [Instr.storeAt, Instr.sureAddr, storeVar, run_sizeOf' hs, hlen, h1]

theorem zeroOf_some {t : TypeId} {z : List AVal} (e : zeroOf P t = some z) : ∃ i v a, P.info? t = some i ∧ i.zero = some v ∧ ofValue v = some a ∧ a.cells = z := by
  unfold zeroOf at e
  cases hi : P.info? t with
  | none => simp [hi] at e
  | some i =>
    cases hz : i.zero with
    | none => simp [hi, hz] at e
    | some v =>
      cases ho : ofValue v with
      | none => simp [hi, hz, ho] at e
      | some a => simp [hi, hz, ho] at e; exact ⟨i, v, a, rfl, hz, ho, e⟩

theorem run_zero {t : TypeId} {z : List AVal} (e : zeroOf P t = some z) (w : World) : ∃ v, (zeroValue t).run P w = .ok v w ∧ VS P m Z w z v.cells.toList := by
  obtain ⟨i, v, a, h1, h2, h3, rfl⟩ := zeroOf_some e
  exact ⟨v, by simp [zeroValue, run_typeInfo' h1, h2], (ofValue_V h3).cells⟩

theorem new_row (r : HRel P m Z h w) {blk : Blk} {l : Nat} (e : halloc h slot blk = some (l, h')) (fr : Free m h base slot) {us rest : List Value} {fz : Nat × Nat}
    (hv : VS P m Z w blk.cells us) (hx : blk.ext = false → rest = []) (hf : ∀ j, j < us.length + rest.length → ¬ (fz.1 ≤ j ∧ j < fz.2)) {w' : World}
    (hw : w'.heap = w.heap.push (.cells (us ++ rest).toArray blk.elem fz)) (ho : w'.os = w.os) (ht : w'.tape = w.tape) (hp : w'.output = w.output) :
    HRel P (upd m l w.heap.size) Z h' w' ∧ Step base slot lb m Z h w (upd m l w.heap.size) Z h' w' := by
  obtain ⟨_, _, _, _, _, hs⟩ := halloc_get e
  rcases hs with ⟨rfl, rfl⟩ | rfl
  · refine alloc_rel r e ?_ hv hx hf hw ho ht hp fr.le
    cases hm : m h.length with
    | none => rfl
    | some b => have := (r.dom _ _ hm).1; omega
  · exact alloc_rel r e (fr.at_ _ rfl).1 hv hx hf hw ho ht hp (fr.at_ _ rfl).2

theorem nofz (n : Nat) : ∀ j, j < n → ¬ (((0, 0) : Nat × Nat).1 ≤ j ∧ j < ((0, 0) : Nat × Nat).2) := fun j _ hh => by simp at hh

theorem V_ptr {l o b : Nat} (hm : m l = some b) : V P m Z w (.ptr (some (l, o))) (.pointer (some ⟨b, o, none⟩)) := by simp only [V]; exact ⟨b, hm, rfl⟩

theorem run_alloc (r : HRel P m Z h w) {t : TypeId} {z : List AVal} {l : Nat} (hz : zeroOf P t = some z) (e : halloc h slot ⟨z, t, false⟩ = some (l, h')) (fr : Free m h base slot) :
    Gives P m Z base slot lb h w (Instr.alloc t true (.tuple #[])) (.ptr (some (l, 0))) h' := by
  obtain ⟨v, h1, h2⟩ := run_zero (m := m) (Z := Z) hz w
  have hw : ({ w with heap := w.heap.push (.cells v.cells t) } : World).heap = w.heap.push (.cells (v.cells.toList ++ []).toArray t (0, 0)) := by simp
  obtain ⟨h3, h4⟩ := new_row r e fr h2 (fun _ => rfl) (nofz _) hw rfl rfl rfl
  exact ⟨.pointer (some ⟨w.heap.size, 0, none⟩), _, upd m l w.heap.size, by simp [Instr.alloc, h1, newVar, newRow], V_ptr (by simp [upd]), h3, h4⟩

theorem run_box (r : HRel P m Z h w) {t : TypeId} {x : AVal} {u : Value} {l : Nat} (hx : V P m Z w x u) (e : halloc h slot ⟨x.cells, t, false⟩ = some (l, h')) (fr : Free m h base slot) :
    Gives P m Z base slot lb h w (Instr.box t u) (.ptr (some (l, 0))) h' := by
  have hw : ({ w with heap := w.heap.push (.cells u.cells t) } : World).heap = w.heap.push (.cells (u.cells.toList ++ []).toArray t (0, 0)) := by simp
  obtain ⟨h3, h4⟩ := new_row r e fr hx.cells (fun _ => rfl) (nofz _) hw rfl rfl rfl
  exact ⟨.pointer (some ⟨w.heap.size, 0, none⟩), _, upd m l w.heap.size, by simp [Instr.box, newVar, newRow], V_ptr (by simp [upd]), h3, h4⟩

/-! ### built values -/
def PartsV (P : Program) (m : Nat → Option Nat) (Z : Nat → Prop) (w : World) : List (Nat × AVal) → List (Nat × Value) → Prop
  | [], us => us = []
  | (i, a) :: ps, us => ∃ u us', us = (i, u) :: us' ∧ V P m Z w a u ∧ PartsV P m Z w ps us'

theorem foldl_set (cs : List Value) : ∀ (xs : Array Value) (off k : Nat), off + k + cs.length ≤ xs.size →
    ((cs.zipIdx k).foldl (fun ys (c, j) => ys.setIfInBounds (off + j) c) xs).toList = spliceV xs.toList (off + k) cs := by
  induction cs with
  | nil => intro xs off k _; simp [spliceV_nil]
  | cons c cs ih =>
    intro xs off k hl
    simp only [List.length_cons] at hl
    rw [List.zipIdx_cons, List.foldl_cons, ih _ off (k + 1) (by simp; omega)]
    simp only [Array.toList_setIfInBounds]
    exact spliceV_cons xs.toList (off + k) c cs (by simp; omega)

theorem run_fill {place : Nat → Option (Nat × Nat)} {parts : List (Nat × AVal)} {us : List (Nat × Value)} {cells out : List AVal} {xs : Array Value}
    (e : fillA place cells parts = some out) (hp : PartsV P m Z w parts us) (hx : VS P m Z w cells xs.toList) :
    ∃ ys : Array Value, Instr.fill place xs us = some ys ∧ VS P m Z w out ys.toList ∧ ys.size = xs.size := by
  induction parts generalizing us cells xs with
  | nil => simp only [PartsV] at hp; subst hp; simp [fillA] at e; subst e; exact ⟨xs, rfl, hx, rfl⟩
  | cons p parts ih =>
    obtain ⟨i, v⟩ := p
    simp only [PartsV] at hp
    obtain ⟨u, us', rfl, hvu, h2⟩ := hp
    · simp only [fillA] at e
      split at e
      · cases e
      · rename_i off size hpl
        split at e
        case isFalse => cases e
        rename_i hc
        obtain ⟨c1, c2, c3⟩ := hc
        have hcs := hvu.cells
        have hl := hcs.length
        have hxl := hx.length
        simp only [Array.length_toList] at hl hxl
        have hfold := foldl_set u.cells.toList xs off 0 (by simp; omega)
        simp only [Nat.add_zero] at hfold
        have key : VS P m Z w (splice cells off v.cells) ((u.cells.zipIdx.foldl (fun cs (c, j) => cs.setIfInBounds (off + j) c) xs)).toList := by
          rw [← Array.foldl_toList, Array.toList_zipIdx, hfold]
          exact hx.splice hcs off
        obtain ⟨ys, k1, k2, k3⟩ := ih e h2 key
        refine ⟨ys, ?_, k2, ?_⟩
        · simp only [Instr.fill, hpl]
          rw [if_neg (by simp; omega)]
          exact k1
        · rw [k3]
          have := key.length
          rw [splice_length _ _ _ (by omega), Array.length_toList] at this
          exact this.trans hxl.symm

theorem parts_V {n : Nat} {env : List AVal} {a : Act} (he : EnvR P m Z w n env a.tmps) {ps : List (Nat × Operand)} {vs : List (Nat × AVal)} (e : partsA env ps = some vs) :
    PartsV P m Z w vs (ps.map fun (i, x) => (i, a.eval x)) := by
  induction ps generalizing vs with
  | nil => simp [partsA] at e; subst e; simp [PartsV]
  | cons p ps ih =>
    obtain ⟨i, x⟩ := p
    simp only [partsA] at e
    split at e
    · rename_i v hv
      split at e
      · rename_i vs' hvs
        simp at e; subst e
        simp only [PartsV, List.map_cons]
        exact ⟨_, _, rfl, evalA_V he hv, ih hvs⟩
      · cases e
    · cases e

theorem mapM_places (fields : List Field) (hf : ∀ f ∈ fields, ∃ s, sizeOf P f.type = some s) (w : World) :
    (fields.mapM (fun f => do pure (f.offset, ← Go.sizeOf f.type)) : Sem (List (Nat × Nat))).run P w = .ok (fields.map fun f => (f.offset, P.cellsOf f.type)) w := by
  induction fields with
  | nil => simp
  | cons f fs ih =>
    obtain ⟨s, hs⟩ := hf f (by simp)
    have ih' := ih fun g hg => hf g (by simp [hg])
    simp only [List.mapM_cons, Sem.run_bind, run_sizeOf' hs, Result.andThen_ok, Sem.run_pure, ih', List.map_cons, sizeOf_cellsOf hs]

theorem run_build {t : TypeId} {parts : List (Nat × AVal)} {us : Array (Nat × Value)} {x : AVal} (e : buildA P t parts = some x) (hp : PartsV P m Z w parts us.toList) :
    ∃ u, (Instr.build t us).run P w = .ok u w ∧ V P m Z w x u := by
  unfold buildA at e
  split at e
  · rename_i z fields hz hu
    obtain ⟨v, h1, h2⟩ := run_zero (m := m) (Z := Z) hz w
    split at e
    case isFalse => cases e
    rename_i hall
    simp only [Option.map_eq_some_iff] at e
    obtain ⟨out, h3, rfl⟩ := e
    have hsz : ∀ f ∈ fields.toList, ∃ s, sizeOf P f.type = some s := fun f hf => by
      rw [Array.all_eq_true] at hall
      obtain ⟨i, hi, rfl⟩ := Array.mem_iff_getElem.1 (Array.mem_toList_iff.1 hf)
      have := hall i hi
      exact Option.isSome_iff_exists.1 this
    have hpl : (fun i => placeOf P fields i) = ((fields.map fun f => (f.offset, P.cellsOf f.type))[·]?) := by
      funext i
      unfold placeOf
      rw [Array.getElem?_map]
      cases hf : fields[i]? with
      | none => rfl
      | some f =>
        obtain ⟨s, hs⟩ := hsz f (Array.mem_toList_iff.2 (Array.mem_of_getElem? hf))
        simp [hs, sizeOf_cellsOf hs]
    rw [show placeOf P fields = fun i => placeOf P fields i from rfl, hpl] at h3
    obtain ⟨ys, k1, k2, _⟩ := run_fill h3 hp h2
    refine ⟨.agg ys, ?_, by simp only [V]; exact ⟨ys.toList, by simp, k2⟩⟩
    have hm := mapM_places (P := P) fields.toList hsz w
    simp only [Instr.build, Sem.run_bind, h1, Result.andThen_ok, run_underlying' hu]
    rw [Array.mapM_eq_mapM_toList]
    simp only [Sem.run_map, hm, Result.andThen_ok]
    simp only [← Array.toList_map, Array.toArray_toList, k1]
    rfl
  · rename_i z n el hz hu
    obtain ⟨v, h1, h2⟩ := run_zero (m := m) (Z := Z) hz w
    split at e
    case h_2 => cases e
    rename_i s hs
    simp only [Option.map_eq_some_iff] at e
    obtain ⟨out, h3, rfl⟩ := e
    obtain ⟨ys, k1, k2, _⟩ := run_fill h3 hp h2
    refine ⟨.agg ys, ?_, by simp only [V]; exact ⟨ys.toList, by simp, k2⟩⟩
    simp [Instr.build, h1, run_underlying' hu, run_sizeOf' hs, k1]
  · cases e

/-! ### rows of zeros -/
theorem zeros_length (z : List AVal) (n : Nat) : (zeros z n).length = n * z.length := by
  induction n with
  | zero => simp [zeros]
  | succ n ih => simp [zeros, ih, Nat.succ_mul]; omega

def zerosV (z : List Value) : Nat → List Value
  | 0 => []
  | n + 1 => z ++ zerosV z n

theorem VS.zeros {z : List AVal} {us : List Value} (hv : VS P m Z w z us) (n : Nat) : VS P m Z w (zeros z n) (zerosV us n) := by
  induction n with
  | zero => simp [Go.Abs.zeros, zerosV, VS]
  | succ n ih => exact hv.append ih

theorem zerosV_get (z : List Value) (hz : 0 < z.length) : ∀ (n i : Nat), i < n * z.length → (zerosV z n)[i]? = some (z.getD (i % z.length) Go.undef)
  | 0, i, hi => by simp at hi
  | n + 1, i, hi => by
    rw [Nat.succ_mul] at hi
    simp only [zerosV, List.getElem?_append]
    by_cases h1 : i < z.length
    · simp [h1, Nat.mod_eq_of_lt h1]
    · rw [if_neg h1, zerosV_get z hz n (i - z.length) (by omega)]
      congr 2
      conv => rhs; rw [show i = (i - z.length) + z.length by omega, Nat.add_mod_right]

theorem zerosV_length (z : List Value) (n : Nat) : (zerosV z n).length = n * z.length := by
  induction n with
  | zero => simp [zerosV]
  | succ n ih => simp [zerosV, ih, Nat.succ_mul]; omega

theorem range_zeros (z : Array Value) (n : Nat) : ((Array.range (n * z.size)).map fun i => z[i % z.size]!).toList = zerosV z.toList n := by
  apply List.ext_getElem?
  intro i
  simp only [Array.toList_map, Array.toList_range, List.getElem?_map]
  by_cases hi : i < n * z.size
  · have hp : 0 < z.size := by
      rcases Nat.eq_zero_or_pos z.size with h0 | h0
      · simp [h0] at hi
      · exact h0
    rw [zerosV_get z.toList (by simpa using hp) n i (by simpa using hi)]
    have hlt : i % z.size < z.size := Nat.mod_lt _ hp
    simp [hi, hlt]
  · rw [List.getElem?_eq_none (by simpa using hi), List.getElem?_eq_none (by rw [zerosV_length]; simpa using hi)]
    rfl
end Go.Abs
