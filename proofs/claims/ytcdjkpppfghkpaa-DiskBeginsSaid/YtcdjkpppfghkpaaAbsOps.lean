/-
  Operations of the machine of values against the model's: those that read, those that only reckon.
-/
import Derived.Test.YtcdjkpppfghkpaaAbsStep
set_option linter.unusedSimpArgs false
set_option linter.unusedVariables false
namespace Go.Abs
open Go

variable {P : Program} {m : Nat → Option Nat} {Z : Nat → Prop} {h h' : Heap} {w : World} {base : Nat}

theorem run_sizeOf' {t : TypeId} {n : Nat} (e : sizeOf P t = some n) (w : World) : (Go.sizeOf t).run P w = .ok n w := by
  unfold sizeOf at e
  cases hi : P.info? t with
  | none => simp [hi] at e
  | some i => simp [hi] at e; subst e; simp [Go.sizeOf, typeInfo, hi]

theorem run_typeInfo' {t : TypeId} {i : TypeInfo} (e : P.info? t = some i) (w : World) : (typeInfo t).run P w = .ok i w := by
  simp [typeInfo, e]

theorem run_underlying' {t : TypeId} {d : TypeDesc} (e : P.underlying t = some d) (w : World) : (underlying t).run P w = .ok d w := by
  simp [underlying, e]

theorem run_isAgg' {t : TypeId} {b : Bool} (e : isAggT P t = some b) (w : World) : (isAgg t).run P w = .ok b w := by
  unfold isAggT at e
  cases hi : P.underlying t with
  | none => simp [hi] at e
  | some d => simp only [hi, Option.map_some, Option.some.injEq] at e; subst e; simp only [isAgg, Sem.run_bind, run_underlying' hi, Result.andThen_ok]; cases d <;> rfl

theorem sizeOf_cellsOf {t : TypeId} {n : Nat} (e : sizeOf P t = some n) : P.cellsOf t = n := by
  unfold sizeOf at e; unfold Program.cellsOf; rw [e]; rfl

/-! ### memory that is read -/
def AtMem (w : World) (b o : Nat) (vs : List Value) : Prop := ∀ j v, vs[j]? = some v → w.cell? ⟨b, o + j, none⟩ = some v

theorem AtMem.drop {b o : Nat} {vs : List Value} (a : AtMem w b o vs) (n : Nat) : AtMem w b (o + n) (vs.drop n) := fun j v hj => by
  rw [List.getElem?_drop] at hj
  have := a (n + j) v hj
  rwa [← Nat.add_assoc] at this

theorem AtMem.take {b o : Nat} {vs : List Value} (a : AtMem w b o vs) (n : Nat) : AtMem w b o (vs.take n) := fun j v hj => by
  rw [List.getElem?_take] at hj
  split at hj
  · exact a j v hj
  · cases hj

theorem VC.mem {as : List AVal} {b o : Nat} (hv : VC P m Z w as b o) : ∃ vs, VS P m Z w as vs ∧ AtMem w b o vs := by
  induction as generalizing o with
  | nil => exact ⟨[], by simp [VS], fun j v hj => by simp at hj⟩
  | cons a as ih =>
    simp only [VC] at hv
    obtain ⟨⟨u, h1, h2⟩, h3⟩ := hv
    obtain ⟨vs, k1, k2⟩ := ih h3
    refine ⟨u :: vs, by simp only [VS]; exact ⟨u, vs, rfl, h2, k1⟩, fun j v hj => ?_⟩
    cases j with
    | zero => simp at hj; subst hj; exact h1
    | succ j => simp at hj; have := k2 j v hj; rwa [Nat.add_assoc, Nat.add_comm 1 j] at this

theorem VC.of_mem {as : List AVal} {vs : List Value} {b o : Nat} (hv : VS P m Z w as vs) (ha : AtMem w b o vs) : VC P m Z w as b o := by
  induction as generalizing o vs with
  | nil => simp only [VC]
  | cons a as ih =>
    simp only [VS] at hv
    obtain ⟨v, vs', rfl, h2, h3⟩ := hv
    simp only [VC]
    refine ⟨⟨v, by simpa using ha 0 v rfl, h2⟩, ih h3 fun j u hj => ?_⟩
    have := ha (j + 1) u (by simpa using hj)
    rwa [show o + (j + 1) = o + 1 + j by omega] at this

theorem VC.drop {as : List AVal} {b o : Nat} (hv : VC P m Z w as b o) (n : Nat) : VC P m Z w (as.drop n) b (o + n) := by
  obtain ⟨vs, h1, h2⟩ := hv.mem
  exact VC.of_mem (h1.drop n) (h2.drop n)

theorem VR.get {sz : Nat} {xs : List (List AVal)} {b o i : Nat} {c : List AVal} (hv : VR P m Z w sz xs b o) (hc : xs[i]? = some c) : c.length = sz ∧ VC P m Z w c b (o + i * sz) := by
  induction xs generalizing o i with
  | nil => simp at hc
  | cons x xs ih =>
    simp only [VR] at hv
    obtain ⟨h1, h2, h3⟩ := hv
    cases i with
    | zero => simp at hc; subst hc; exact ⟨h1, by simpa using h2⟩
    | succ i =>
      have := ih h3 (by simpa using hc)
      refine ⟨this.1, ?_⟩
      rw [show o + (i + 1) * sz = o + sz + i * sz by rw [Nat.succ_mul]; omega]
      exact this.2

theorem VR.drop {sz : Nat} {xs : List (List AVal)} {b o : Nat} (hv : VR P m Z w sz xs b o) (n : Nat) : VR P m Z w sz (xs.drop n) b (o + n * sz) := by
  induction xs generalizing o n with
  | nil => simp [VR]
  | cons x xs ih =>
    cases n with
    | zero => simpa using hv
    | succ n =>
      simp only [VR] at hv
      rw [List.drop_succ_cons, show o + (n + 1) * sz = o + sz + n * sz by rw [Nat.succ_mul]; omega]
      exact ih hv.2.2 n

theorem VR.take {sz : Nat} {xs : List (List AVal)} {b o : Nat} (hv : VR P m Z w sz xs b o) (n : Nat) : VR P m Z w sz (xs.take n) b o := by
  induction xs generalizing o n with
  | nil => simp [VR]
  | cons x xs ih =>
    cases n with
    | zero => simp [VR]
    | succ n =>
      simp only [VR] at hv
      rw [List.take_succ_cons]
      simp only [VR]
      exact ⟨hv.1, hv.2.1, ih hv.2.2 n⟩

theorem VR.flat {sz : Nat} {xs : List (List AVal)} {b o : Nat} (hv : VR P m Z w sz xs b o) : ∃ vs, VS P m Z w xs.flatten vs ∧ AtMem w b o vs ∧ vs.length = xs.length * sz := by
  induction xs generalizing o with
  | nil => exact ⟨[], by simp [VS], fun j v hj => by simp at hj, by simp⟩
  | cons x xs ih =>
    simp only [VR] at hv
    obtain ⟨h1, h2, h3⟩ := hv
    obtain ⟨vs, k1, k2, k3⟩ := ih h3
    obtain ⟨us, g1, g2⟩ := h2.mem
    have hl := g1.length
    refine ⟨us ++ vs, by simpa using g1.append k1, fun j v hj => ?_, by simp [k3, hl, h1, Nat.succ_mul]; omega⟩
    rw [List.getElem?_append] at hj
    split at hj
    · exact g2 j v hj
    · rename_i hge
      have := k2 _ v hj
      rwa [show o + sz + (j - us.length) = o + j by omega] at this

theorem RowAt.mem {blk : Blk} {b : Nat} (r : RowAt P m Z w blk b) : ∃ vs, VS P m Z w blk.cells vs ∧ AtMem w b 0 vs := by
  obtain ⟨⟨us, rest, fz, h1, h2, _, _⟩, _⟩ := r
  refine ⟨us, h2, fun j v hj => ?_⟩
  have hlt : j < us.length := (List.getElem?_eq_some_iff.1 hj).1
  simp [World.cell?, h1, List.getElem?_append, hlt]
  exact (List.getElem?_eq_some_iff.1 hj).2

theorem add_none (b o n : Nat) : (⟨b, o, none⟩ : Addr).add n = ⟨b, o + n, none⟩ := by unfold Addr.add; split <;> simp_all

theorem run_loadVar' {t : TypeId} {cells : List AVal} {x : AVal} {b o : Nat} {vs : List Value} (e : loadAV P t cells = some x) (hv : VS P m Z w cells vs) (hm : AtMem w b o vs) :
    ∃ u, (loadVar t ⟨b, o, none⟩).run P w = .ok u w ∧ V P m Z w x u := by
  unfold loadAV at e
  split at e
  · rename_i hagg
    split at e
    · rename_i n hn
      split at e
      · rename_i hle
        simp only [Option.some.injEq] at e; subst e
        have hl := hv.length
        have := run_loadCells_list (P := P) w ⟨b, o, none⟩ (vs.take n) fun j v hj => by
          rw [add_none]; exact hm.take n j v hj
        have hlen : (vs.take n).length = n := by simp; omega
        rw [hlen] at this
        refine ⟨.agg (vs.take n).toArray, ?_, by simp only [V]; exact ⟨_, rfl, hv.take n⟩⟩
        simp [loadVar, run_isAgg' hagg, run_sizeOf' hn, this]
      · cases e
    · cases e
  · rename_i hagg
    split at e
    · rename_i c rest
      simp only [Option.some.injEq] at e; subst e
      simp only [VS] at hv
      obtain ⟨v, vs', rfl, h1, _⟩ := hv
      refine ⟨v, ?_, h1⟩
      have h0 := hm 0 v rfl
      rw [Nat.add_zero] at h0
      simp [loadVar, run_isAgg' hagg, h0]
    · cases e
  · cases e

theorem run_part' {t : TypeId} {cells : List AVal} {x : AVal} {o : Nat} {vs : List Value} (e : loadAV P t (cells.drop o) = some x) (hv : VS P m Z w cells vs) :
    ∃ u, (part t vs.toArray o).run P w = .ok u w ∧ V P m Z w x u := by
  unfold loadAV at e
  split at e
  · rename_i hagg
    split at e
    · rename_i n hn
      split at e
      · rename_i hle
        simp only [Option.some.injEq] at e; subst e
        refine ⟨.agg ((vs.drop o).take n).toArray, ?_, by simp only [V]; exact ⟨_, rfl, (hv.drop o).take n⟩⟩
        simp [part, run_isAgg' hagg, run_sizeOf' hn, List.extract_eq_take_drop]
      · cases e
    · cases e
  · rename_i hagg
    split at e
    · rename_i c rest hc
      simp only [Option.some.injEq] at e; subst e
      have hd := hv.drop o
      rw [hc] at hd
      simp only [VS] at hd
      obtain ⟨v, vs', hvs, h1, _⟩ := hd
      refine ⟨v, ?_, h1⟩
      have : vs[o]? = some v := by
        have h0 : (vs.drop o)[0]? = some v := by rw [hvs]; rfl
        rw [List.getElem?_drop] at h0
        simpa using h0
      simp [part, run_isAgg' hagg, this]
    · cases e
  · cases e

theorem run_loadAt (r : HRel P m Z h w) {t : TypeId} {a x : AVal} {v : Value} (e : loadA P h t a = some x) (hv : V P m Z w a v) : ∃ u, (Instr.loadAt t v).run P w = .ok u w ∧ V P m Z w x u := by
  unfold loadA at e
  split at e
  · rename_i l o
    split at e
    · rename_i b hb
      simp only [V] at hv
      obtain ⟨bb, hbb, rfl⟩ := hv
      obtain ⟨b', hb', row⟩ := r.row l b hb
      rw [hbb] at hb'; simp at hb'; subst hb'
      obtain ⟨vs, h1, h2⟩ := row.mem
      obtain ⟨u, h3, h4⟩ := run_loadVar' e (h1.drop o) (h2.drop o)
      rw [Nat.zero_add] at h3
      exact ⟨u, by simp [Instr.loadAt, Instr.sureAddr, h3], h4⟩
    · cases e
  · rename_i cells
    simp only [V] at hv
    obtain ⟨bb, o, rfl, hz, hc⟩ := hv
    obtain ⟨vs, h1, h2⟩ := hc.mem
    obtain ⟨u, h3, h4⟩ := run_loadVar' e h1 h2
    exact ⟨u, by simp [Instr.loadAt, Instr.sureAddr, h3], h4.wide⟩
  · cases e

/-! ### constants, operands -/
theorem ofScalar_V {v : Value} {a : AVal} (e : ofScalar v = some a) : V P m Z w a v := by
  unfold ofScalar at e
  split at e <;> first | cases e | skip
  all_goals simp only [V]
  all_goals first | rfl | exact ⟨none, 0, rfl, by simp⟩

theorem mapO_VS {vs : List Value} {as : List AVal} (e : mapO ofScalar vs = some as) : VS P m Z w as vs := by
  induction vs generalizing as with
  | nil => simp [mapO] at e; subst e; simp [VS]
  | cons v vs ih =>
    simp only [mapO] at e
    split at e
    · cases e
    · rename_i y hy
      split at e
      · cases e
      · rename_i ys hys
        simp at e; subst e
        simp only [VS]
        exact ⟨v, vs, rfl, ofScalar_V hy, ih hys⟩

theorem ofValue_V {v : Value} {a : AVal} (e : ofValue v = some a) : V P m Z w a v := by
  unfold ofValue at e
  split at e
  · rename_i cs
    simp only [Option.map_eq_some_iff] at e
    obtain ⟨as, h1, rfl⟩ := e
    simp only [V]
    exact ⟨cs.toList, by simp, mapO_VS h1⟩
  · exact ofScalar_V e

/-- a frame: each place's value -/
def EnvR (P : Program) (m : Nat → Option Nat) (Z : Nat → Prop) (w : World) (n : Nat) (env : List AVal) (tmps : Array Value) : Prop :=
  tmps.size = n ∧ ∀ i, V P m Z w (getX env i) (tmps.getD i Go.undef)

theorem evalA_V {n : Nat} {env : List AVal} {a : Act} (he : EnvR P m Z w n env a.tmps) {x : Operand} {v : AVal} (e : evalA env x = some v) : V P m Z w v (a.eval x) := by
  cases x with
  | tmp t => simp [evalA] at e; subst e; exact he.2 t
  | const c => exact ofValue_V e
  | global g => simp [evalA] at e
  | func f => simp [evalA] at e; subst e; simp only [V, Act.eval]; exact ⟨[], [], rfl, by simp [VS], by simp [VS]⟩

theorem evalsA_V {n : Nat} {env : List AVal} {a : Act} (he : EnvR P m Z w n env a.tmps) {xs : List Operand} {vs : List AVal} (e : evalsA env xs = some vs) : VS P m Z w vs (xs.map a.eval) := by
  induction xs generalizing vs with
  | nil => simp [evalsA] at e; subst e; simp [VS]
  | cons x xs ih =>
    simp only [evalsA] at e
    split at e
    · rename_i v hv
      split at e
      · rename_i vs' hvs
        simp at e; subst e
        simp only [VS, List.map_cons]
        exact ⟨_, _, rfl, evalA_V he hv, ih hvs⟩
      · cases e
    · cases e
end Go.Abs
