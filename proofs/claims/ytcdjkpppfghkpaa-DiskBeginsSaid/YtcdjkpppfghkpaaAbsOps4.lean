/-
  Operations of the machine of values against the model's: fields, elements, reckoning, tests.
-/
import Derived.Test.YtcdjkpppfghkpaaAbsOps3
import Derived.Laws.Strings
set_option linter.unusedSimpArgs false
set_option linter.unusedVariables false
namespace Go.Abs
open Go

variable {P : Program} {m : Nat → Option Nat} {Z : Nat → Prop} {h h' : Heap} {w : World} {base : Nat} {slot : Option Nat}

theorem fieldOf_some {s : TypeId} {f : Nat} {fd : Field} (e : fieldOf P s f = some fd) : ∃ fields, P.underlying s = some (.struct fields) ∧ fields[f]? = some fd := by
  unfold fieldOf at e
  split at e
  · rename_i fs hs; exact ⟨fs, hs, e⟩
  · cases e

theorem run_fieldAddr {s : TypeId} {a x : AVal} {v : Value} {f : Nat} (e : fieldAddrA P s a f = some x) (ha : V P m Z w a v) : ∃ u, (Instr.fieldAt s v f).run P w = .ok u w ∧ V P m Z w x u := by
  simp only [fieldAddrA, Option.bind_eq_bind, Option.bind_eq_some_iff] at e
  obtain ⟨fd, hf, sz, hs, _, hg, e⟩ := e
  have hg := of_decide_eq_true (gd_some hg)
  obtain ⟨fields, hu, hfd⟩ := fieldOf_some hf
  split at e
  · rename_i l o
    simp at e; subst e
    simp only [V] at ha
    obtain ⟨b, hb, rfl⟩ := ha
    refine ⟨.pointer (some ⟨b, o + fd.offset, none⟩), ?_, V_ptr hb⟩
    simp only [Instr.fieldAt, Sem.run_bind, run_underlying' hu, Result.andThen_ok, hfd, pure_bind, Instr.sureAddr, fieldPlace, run_sizeOf' hs]
    rw [if_neg hg, add_none]; rfl
  · rename_i cells
    simp at e; subst e
    simp only [V] at ha
    obtain ⟨b, o, rfl, hz, hc⟩ := ha
    refine ⟨.pointer (some ⟨b, o + fd.offset, none⟩), ?_, by simp only [V]; exact ⟨b, _, rfl, hz, hc.drop _⟩⟩
    simp only [Instr.fieldAt, Sem.run_bind, run_underlying' hu, Result.andThen_ok, hfd, pure_bind, Instr.sureAddr, fieldPlace, run_sizeOf' hs]
    rw [if_neg hg, add_none]; rfl
  · cases e

theorem run_field {s : TypeId} {a x : AVal} {v : Value} {f : Nat} (e : fieldA P s a f = some x) (ha : V P m Z w a v) : ∃ u, (Instr.field s v f).run P w = .ok u w ∧ V P m Z w x u := by
  simp only [fieldA, Option.bind_eq_bind, Option.bind_eq_some_iff] at e
  obtain ⟨fd, hf, e⟩ := e
  obtain ⟨fields, hu, hfd⟩ := fieldOf_some hf
  split at e
  case h_2 => cases e
  rename_i cs
  simp only [V] at ha
  obtain ⟨us, rfl, hc⟩ := ha
  obtain ⟨u, h1, h2⟩ := run_part' e hc
  refine ⟨u, ?_, h2⟩
  simp [Instr.field, run_underlying' hu, hfd, asAgg, h1]

theorem run_indexAddr {t : TypeId} {a x i : AVal} {v vi : Value} (e : indexAddrA P t a i = some x) (ha : V P m Z w a v) (hi : V P m Z w i vi) : ∃ u, (Instr.indexAt t v vi).run P w = .ok u w ∧ V P m Z w x u := by
  unfold indexAddrA at e
  split at e
  · rename_i k i n el l o hu
    split at e
    case isFalse => cases e
    rename_i hc
    simp only [Option.map_eq_some_iff] at e
    obtain ⟨sz, hs, rfl⟩ := e
    simp only [V] at ha hi
    obtain ⟨b, hb, rfl⟩ := ha
    subst hi
    refine ⟨.pointer (some ⟨b, o + i.toNat * sz, none⟩), ?_, V_ptr hb⟩
    simp only [Instr.indexAt, asIntOf, pure_bind, Sem.run_bind, run_underlying' hu, Result.andThen_ok, Instr.sureAddr, Sem.run_pure]
    rw [if_pos hc]
    simp only [Sem.run_bind, run_sizeOf' hs, Result.andThen_ok, add_none, Sem.run_pure]
  · rename_i k i n el cells hu
    split at e
    case isFalse => cases e
    rename_i hc
    simp only [Option.map_eq_some_iff] at e
    obtain ⟨sz, hs, rfl⟩ := e
    simp only [V] at ha hi
    obtain ⟨b, o, rfl, hz, hcs⟩ := ha
    subst hi
    refine ⟨.pointer (some ⟨b, o + i.toNat * sz, none⟩), ?_, by simp only [V]; exact ⟨b, _, rfl, hz, hcs.drop _⟩⟩
    simp only [Instr.indexAt, asIntOf, pure_bind, Sem.run_bind, run_underlying' hu, Result.andThen_ok, Instr.sureAddr, Sem.run_pure]
    rw [if_pos hc]
    simp only [Sem.run_bind, run_sizeOf' hs, Result.andThen_ok, add_none, Sem.run_pure]
  · rename_i k i el l o len cap hu
    split at e
    case isFalse => cases e
    rename_i hc
    simp only [Option.map_eq_some_iff] at e
    obtain ⟨sz, hs, rfl⟩ := e
    simp only [V] at ha hi
    obtain ⟨b, ad, cp, hb, rfl, g1, g2, g3, g4⟩ := ha
    subst hi
    have had := g2 (by omega)
    subst had
    refine ⟨.pointer (some ⟨b, o + i.toNat * sz, none⟩), ?_, V_ptr hb⟩
    simp only [Instr.indexAt, asIntOf, pure_bind, Sem.run_bind, run_underlying' hu, Result.andThen_ok, Sem.run_pure]
    rw [if_pos hc]
    simp only [Sem.run_bind, run_sizeOf' hs, Result.andThen_ok, add_none, Sem.run_pure]
  · rename_i k i el isNil xs hu
    split at e
    case isFalse => cases e
    rename_i h0
    split at e
    case h_2 => cases e
    rename_i cells hc
    split at e
    case isFalse => cases e
    rename_i hs
    simp at e; subst e
    simp only [V] at ha hi
    obtain ⟨bs, cp, rfl, g1, g2, g3, g4⟩ := ha
    subst hi
    have hlt : i.toNat < xs.length := (List.getElem?_eq_some_iff.1 hc).1
    obtain ⟨b, o, sz, rfl, hz, hr⟩ := g4 (fun h => by simp [h] at hlt)
    obtain ⟨q1, q2⟩ := hr.get hc
    rw [q1] at hs
    refine ⟨.pointer (some ⟨b, o + i.toNat * sz, none⟩), ?_, by simp only [V]; exact ⟨b, _, rfl, hz, q2⟩⟩
    simp only [Instr.indexAt, asIntOf, pure_bind, Sem.run_bind, run_underlying' hu, Result.andThen_ok, Sem.run_pure]
    rw [if_pos (by omega)]
    simp only [Sem.run_bind, run_sizeOf' hs, Result.andThen_ok, add_none, Sem.run_pure]
  · cases e

theorem run_index {t : TypeId} {a x i : AVal} {v vi : Value} (e : indexA P t a i = some x) (ha : V P m Z w a v) (hi : V P m Z w i vi) : ∃ u, (Instr.index t v vi).run P w = .ok u w ∧ V P m Z w x u := by
  unfold indexA at e
  split at e
  · rename_i k i n el cs hu
    split at e
    case isFalse => cases e
    rename_i hc
    split at e
    case h_2 => cases e
    rename_i sz hs
    simp only [V] at ha hi
    obtain ⟨us, rfl, hcs⟩ := ha
    subst hi
    obtain ⟨u, h1, h2⟩ := run_part' e hcs
    refine ⟨u, ?_, h2⟩
    simp only [Instr.index, asIntOf, pure_bind, Sem.run_bind, run_underlying' hu, Result.andThen_ok]
    rw [if_pos hc]
    simp only [Sem.run_bind, run_sizeOf' hs, Result.andThen_ok, h1]
  · rename_i k i s hu
    split at e
    case isFalse => cases e
    rename_i h0
    split at e
    case h_2 => cases e
    rename_i b hb
    simp at e; subst e
    simp only [V] at ha hi
    subst ha; subst hi
    refine ⟨.int .u8 b.toNat, ?_, by simp only [V]⟩
    have hlt : i.toNat < s.length := (List.getElem?_eq_some_iff.1 hb).1
    have : (⟨s.toArray⟩ : ByteArray)[i.toNat]? = some b := by
      rw [getElem?_pos (⟨s.toArray⟩ : ByteArray) i.toNat (by exact hlt)]
      simp only [Option.some.injEq]
      have := (List.getElem?_eq_some_iff.1 hb).2
      exact this
    simp only [Instr.index, asIntOf, pure_bind, Sem.run_bind, run_underlying' hu, Result.andThen_ok]
    rw [if_pos h0, this]
    rfl
  · cases e

/-! ### reckoning -/
theorem run_unOp {op : UnOp} {a x : AVal} {v : Value} (e : unA op a = some x) (ha : V P m Z w a v) : ∃ u, (Op.unary op v).run P w = .ok u w ∧ V P m Z w x u := by
  unfold unA at e
  split at e <;> first | cases e | skip
  all_goals simp only [V] at ha; subst ha
  · exact ⟨_, rfl, by simp only [V]⟩
  · exact ⟨_, rfl, by simp only [V]⟩
  · exact ⟨_, rfl, by simp only [V]⟩

theorem nilP_V {a : AVal} {v : Value} {b : Bool} (e : nilP a = some b) (ha : V P m Z w a v) : ∃ p, v = .pointer p ∧ b = p.isNone := by
  unfold nilP at e
  split at e <;> first | cases e | skip
  · rename_i p
    cases p with
    | none => simp only [V] at ha; subst ha; exact ⟨none, rfl, rfl⟩
    | some p => simp only [V] at ha; obtain ⟨b, _, rfl⟩ := ha; exact ⟨_, rfl, rfl⟩
  · simp only [V] at ha; obtain ⟨b, o, rfl, _⟩ := ha; exact ⟨_, rfl, rfl⟩
theorem nilS_V {a : AVal} {v : Value} {b : Bool} (e : nilS a = some b) (ha : V P m Z w a v) : ∃ p n c, v = .slice p n c ∧ b = p.isNone := by
  unfold nilS at e
  split at e <;> first | cases e | skip
  · simp only [V] at ha; obtain ⟨b, ad, cp, _, rfl, _⟩ := ha; exact ⟨_, _, _, rfl, rfl⟩
  · simp only [V] at ha; obtain ⟨bs, cp, rfl, _, h2, _⟩ := ha; exact ⟨_, _, _, rfl, h2.symm⟩
theorem nilF_V {a : AVal} {v : Value} {b : Bool} (e : nilF a = some b) (ha : V P m Z w a v) : (v = .nilFunc ∧ b = true) ∨ (∃ f x y, v = .func f x y ∧ b = false) := by
  unfold nilF at e
  split at e <;> first | cases e | skip
  · simp only [V] at ha; obtain ⟨fs, cs, rfl, _⟩ := ha; exact .inr ⟨_, _, _, rfl, rfl⟩
  · simp only [V] at ha; subst ha; exact .inl ⟨rfl, rfl⟩

theorem str_beq (a b : List UInt8) : ((⟨a.toArray⟩ : ByteArray) == ⟨b.toArray⟩) = (a == b) := by
  show ((⟨a.toArray⟩ : ByteArray).data == (⟨b.toArray⟩ : ByteArray).data) = _
  simp

def eqBody (D : Nat) (us vs : Array Value) (f : Field) (_s : Option Bool × PUnit) : Sem (ForInStep (Option Bool × PUnit)) :=
  if f.name ≠ "_" then do
    let x ← part f.type us f.offset
    let y ← part f.type vs f.offset
    let b ← Op.equalIn D f.type x y
    if (!b) = true then pure (ForInStep.done (some false, ())) else pure (ForInStep.yield (none, ()))
  else pure (ForInStep.yield (none, ()))

theorem run_eqFields {eq : TypeId → AVal → AVal → Option Bool} {D : Nat} (ih : ∀ {t x y b vx vy}, eq t x y = some b → V P m Z w x vx → V P m Z w y vy → (Op.equalIn D t vx vy).run P w = .ok b w)
    {xs ys : List AVal} {us vs : List Value} (hx : VS P m Z w xs us) (hy : VS P m Z w ys vs) : ∀ {fs : List Field} {b : Bool}, eqFields eq P xs ys fs = some b →
    (forIn fs (none, ()) (eqBody D us.toArray vs.toArray)).run P w = .ok (if b then none else some false, ()) w
  | [], b, e => by simp [eqFields] at e; subst e; rfl
  | f :: fs, b, e => by
    simp only [eqFields] at e
    split at e
    case isTrue => cases e
    rename_i hn
    split at e
    case h_2 => cases e
    rename_i x y h1 h2
    obtain ⟨ux, g1, g2⟩ := run_part' h1 hx
    obtain ⟨uy, g3, g4⟩ := run_part' h2 hy
    rw [List.forIn_cons]
    split at e
    · rename_i hb
      have hq := ih hb g2 g4
      have hr := run_eqFields ih hx hy e
      simp [eqBody, hn, g1, g3, hq, hr]
    · rename_i r hne
      cases b with
      | true => exact absurd e hne
      | false =>
        have hq := ih e g2 g4
        simp [eqBody, hn, g1, g3, hq]

def eqBodyC (D : Nat) (e : TypeId) (n : Nat) (us vs : Array Value) (i : Nat) (_s : Option Bool × PUnit) : Sem (ForInStep (Option Bool × PUnit)) := do
    let x ← part e us (i * n)
    let y ← part e vs (i * n)
    let b ← Op.equalIn D e x y
    if (!b) = true then pure (ForInStep.done (some false, ())) else pure (ForInStep.yield (none, ()))

theorem run_eqCells {eq : AVal → AVal → Option Bool} {D : Nat} {el : TypeId} (hagg : isAggT P el = some false) (ih : ∀ {x y b vx vy}, eq x y = some b → V P m Z w x vx → V P m Z w y vy → (Op.equalIn D el vx vy).run P w = .ok b w)
    {us vs : List Value} : ∀ {xs ys : List AVal} {b : Bool} (i : Nat), VS P m Z w xs (us.drop i) → VS P m Z w ys (vs.drop i) → eqCells eq xs ys = some b →
    (forIn (List.range' i xs.length) (none, ()) (eqBodyC D el 1 us.toArray vs.toArray)).run P w = .ok (if b then none else some false, ()) w
  | [], [], b, i, hx, hy, e => by simp [eqCells] at e; subst e; rfl
  | [], _ :: _, b, i, hx, hy, e => by simp [eqCells] at e
  | _ :: _, [], b, i, hx, hy, e => by simp [eqCells] at e
  | x :: xs, y :: ys, b, i, hx, hy, e => by
    simp only [eqCells] at e
    simp only [VS] at hx hy
    obtain ⟨u, us', hu, h1, h2⟩ := hx
    obtain ⟨v, vs', hv, h3, h4⟩ := hy
    have hui : us[i]? = some u := by
      have h0 : (us.drop i)[0]? = some u := by rw [hu]; rfl
      rw [List.getElem?_drop] at h0; simpa using h0
    have hvi : vs[i]? = some v := by
      have h0 : (vs.drop i)[0]? = some v := by rw [hv]; rfl
      rw [List.getElem?_drop] at h0; simpa using h0
    have hus : us.drop (i + 1) = us' := by rw [← List.drop_drop, hu]; rfl
    have hvs : vs.drop (i + 1) = vs' := by rw [← List.drop_drop, hv]; rfl
    rw [List.length_cons, List.range'_succ, List.forIn_cons]
    have pu : (part el us.toArray (i * 1)).run P w = .ok u w := by simp [part, run_isAgg' hagg, hui]
    have pv : (part el vs.toArray (i * 1)).run P w = .ok v w := by simp [part, run_isAgg' hagg, hvi]
    rw [Nat.mul_one] at pu pv
    split at e
    · rename_i hb
      have hq := ih hb h1 h3
      have hr := run_eqCells hagg ih (i + 1) (hus ▸ h2) (hvs ▸ h4) e
      simp [eqBodyC, pu, pv, hq, hr]
    · rename_i r hne
      cases b with
      | true => exact absurd e hne
      | false =>
        have hq := ih e h1 h3
        simp [eqBodyC, pu, pv, hq]

theorem run_equalIn : ∀ (d D : Nat) {t : TypeId} {x y : AVal} {b : Bool} {vx vy : Value}, d ≤ D → eqA P d t x y = some b → V P m Z w x vx → V P m Z w y vy → (Op.equalIn D t vx vy).run P w = .ok b w
  | 0, D, t, x, y, b, vx, vy, hd, e, hx, hy => by simp [eqA] at e
  | d + 1, 0, t, x, y, b, vx, vy, hd, e, hx, hy => by omega
  | d + 1, D + 1, t, x, y, b, vx, vy, hd, e, hx, hy => by
    simp only [eqA] at e
    split at e
    · rename_i hu
      simp only [V] at hx hy; subst hx; subst hy
      simp at e; subst e
      simp [Op.equalIn, run_underlying' hu]
    · rename_i hu
      simp only [V] at hx hy; subst hx; subst hy
      split at e
      case isFalse => cases e
      rename_i hk
      simp at e; subst e; subst hk
      simp [Op.equalIn, run_underlying' hu]
    · rename_i hu
      simp only [V] at hx hy; subst hx; subst hy
      simp at e; subst e
      simp [Op.equalIn, run_underlying' hu, str_beq]
    · rename_i hu
      simp only [V] at hx; subst hx
      obtain ⟨p, rfl, rfl⟩ := nilP_V e hy
      simp [Op.equalIn, run_underlying' hu]
    · rename_i hu _
      simp only [V] at hy; subst hy
      obtain ⟨p, rfl, rfl⟩ := nilP_V e hx
      cases p <;> simp [Op.equalIn, run_underlying' hu]
    · rename_i hu
      simp only [V] at hx
      obtain ⟨bs, cp, rfl, h1, h2, h3, _⟩ := hx
      obtain rfl : bs = none := by simpa using h2
      obtain ⟨p, n, c, rfl, rfl⟩ := nilS_V e hy
      simp [Op.equalIn, run_underlying' hu]
    · rename_i hu _
      simp only [V] at hy
      obtain ⟨bs, cp, rfl, h1, h2, h3, _⟩ := hy
      obtain rfl : bs = none := by simpa using h2
      obtain ⟨p, n, c, rfl, rfl⟩ := nilS_V e hx
      cases p <;> simp [Op.equalIn, run_underlying' hu]
    · rename_i hu
      simp only [V] at hx; subst hx
      rcases nilF_V e hy with ⟨rfl, rfl⟩ | ⟨f, a, c, rfl, rfl⟩
      · simp [Op.equalIn, run_underlying' hu]
      · simp [Op.equalIn, run_underlying' hu]
    · rename_i hu _
      simp only [V] at hy; subst hy
      rcases nilF_V e hx with ⟨rfl, rfl⟩ | ⟨f, a, c, rfl, rfl⟩
      · simp [Op.equalIn, run_underlying' hu]
      · simp [Op.equalIn, run_underlying' hu]
    · rename_i fields xs ys hu
      split at e
      case isFalse => cases e
      rename_i hst
      simp only [V] at hx hy
      obtain ⟨us, rfl, hx⟩ := hx
      obtain ⟨vs, rfl, hy⟩ := hy
      have ih := fun {t x y b vx vy} => run_equalIn d D (t := t) (x := x) (y := y) (b := b) (vx := vx) (vy := vy) (by omega)
      have hr := run_eqFields ih hx hy e
      simp only [Op.equalIn, Sem.run_bind, run_underlying' hu, run_program, Result.andThen_ok, Sem.run_pure, hst, Bool.false_eq_true, if_false]
      rw [← Array.forIn_toList]
      have hr' : (forIn fields.toList (none, ()) fun (f : Field) (_s : Option Bool × PUnit) => (if f.name ≠ "_" then do
            let x ← part f.type us.toArray f.offset
            let y ← part f.type vs.toArray f.offset
            let b ← Op.equalIn D f.type x y
            if (!b) = true then pure (ForInStep.done (some false, ())) else pure (ForInStep.yield (none, ()))
          else pure (ForInStep.yield (none, ())) : Sem (ForInStep (Option Bool × PUnit)))).run P w = .ok (if b then none else some false, ()) w := hr
      rw [hr']
      cases b <;> rfl
    · rename_i n el xs ys hu
      split at e
      case isFalse => cases e
      rename_i hc
      obtain ⟨hs, hagg, hlx, hly⟩ := hc
      simp only [V] at hx hy
      obtain ⟨us, rfl, hx⟩ := hx
      obtain ⟨vs, rfl, hy⟩ := hy
      have ih := fun {x y b vx vy} => run_equalIn d D (t := el) (x := x) (y := y) (b := b) (vx := vx) (vy := vy) (by omega)
      have hr := run_eqCells hagg ih 0 (by simpa using hx) (by simpa using hy) e
      simp only [Op.equalIn, Sem.run_bind, run_underlying' hu, Result.andThen_ok, run_sizeOf' hs]
      rw [Std.Legacy.Range.forIn_eq_forIn_range']
      simp only [Std.Legacy.Range.size, Nat.sub_zero, Nat.add_sub_cancel, Nat.div_one]
      rw [hlx] at hr
      have hr' : (forIn (List.range' 0 n 1) (none, ()) fun (i : Nat) (_s : Option Bool × PUnit) => (do
            let x ← part el us.toArray (i * 1)
            let y ← part el vs.toArray (i * 1)
            let b ← Op.equalIn D el x y
            if (!b) = true then pure (ForInStep.done (some false, ())) else pure (ForInStep.yield (none, ())) : Sem (ForInStep (Option Bool × PUnit)))).run P w = .ok (if b then none else some false, ()) w := hr
      rw [hr']
      cases b <;> rfl
    · cases e

theorem run_equal {t : TypeId} {x y : AVal} {b : Bool} {vx vy : Value} (e : eqA P 8 t x y = some b) (hx : V P m Z w x vx) (hy : V P m Z w y vy) : (Op.equal t vx vy).run P w = .ok b w :=
  run_equalIn 8 Op.maxDepth (by decide) e hx hy
end Go.Abs
