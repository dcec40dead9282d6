import Derived.Test.YtcdjkpppfghkpaaAbsKeep
import Derived.Test.YtcdjkpppfghkpaaAbsFrame
section
/-
  A region whose order is open: what each operation looks at.
-/
set_option linter.unusedSimpArgs false
set_option linter.unusedVariables false
namespace Go.Abs
open Go

variable {C : Cfg} {P : Program} {G G' X : Heap} {base : Nat} {slot : Option Nat} {cl : Caller} {env env' : List AVal}

/-! ### it looks at its operands alone -/
def Agree (env env' : List AVal) (ts : List Nat) : Prop := ∀ t, t ∈ ts → getX env t = getX env' t

theorem evalA_agree {x : Operand} (h : Agree env env' (tmpOf x)) : evalA env x = evalA env' x := by
  cases x with
  | tmp t => simp only [evalA]; rw [h t (by simp [tmpOf])]
  | _ => rfl

theorem agree_mem {xs : List Operand} (h : Agree env env' (xs.flatMap tmpOf)) {x : Operand} (hx : x ∈ xs) : evalA env x = evalA env' x :=
  evalA_agree fun t ht => h t (List.mem_flatMap.2 ⟨x, hx, ht⟩)

theorem evalsA_agree {xs : List Operand} (h : ∀ x ∈ xs, evalA env x = evalA env' x) : evalsA env xs = evalsA env' xs := by
  induction xs with
  | nil => rfl
  | cons x xs ih => simp only [evalsA]; rw [h x (by simp), ih fun y hy => h y (by simp [hy])]

theorem partsA_agree {ps : List (Nat × Operand)} (h : ∀ p ∈ ps, evalA env p.2 = evalA env' p.2) : partsA env ps = partsA env' ps := by
  induction ps with
  | nil => rfl
  | cons p ps ih =>
    obtain ⟨i, x⟩ := p
    simp only [partsA]
    rw [h (i, x) (by simp), ih fun y hy => h y (by simp [hy])]

theorem evalO_agree {x : Option Operand} (h : ∀ y, x = some y → evalA env y = evalA env' y) : evalO env x = evalO env' x := by
  cases x with
  | none => rfl
  | some y => simp only [evalO]; rw [h y rfl]

theorem opA_agree {op : Op} (h : Agree env env' (op.operands.toList.flatMap tmpOf)) : opA C cl base slot env G op = opA C cl base slot env' G op := by
  have hm : ∀ x, x ∈ op.operands.toList → evalA env x = evalA env' x := fun x hx => agree_mem h hx
  cases op with
  | move x => simp only [opA]; rw [hm x (by simp [Op.operands])]
  | assign x => simp only [opA]; rw [hm x (by simp [Op.operands])]
  | pick c a b => simp only [opA]; rw [hm c (by simp [Op.operands]), hm a (by simp [Op.operands]), hm b (by simp [Op.operands])]
  | box t x => simp only [opA]; rw [hm x (by simp [Op.operands])]
  | build t ps =>
    simp only [opA]
    rw [partsA_agree (env := env) (env' := env') fun p hp => hm p.2 (by simp [Op.operands]; exact ⟨p.1, by simpa using hp⟩)]
  | buildSlice t n ps =>
    simp only [opA]
    rw [partsA_agree (env := env) (env' := env') fun p hp => hm p.2 (by simp [Op.operands]; exact ⟨p.1, by simpa using hp⟩)]
  | load t x => simp only [opA]; rw [hm x (by simp [Op.operands])]
  | store t x y => simp only [opA]; rw [hm x (by simp [Op.operands]), hm y (by simp [Op.operands])]
  | nilCheck x => simp only [opA]; rw [hm x (by simp [Op.operands])]
  | binOp op t x y _ => simp only [opA]; rw [hm x (by simp [Op.operands]), hm y (by simp [Op.operands])]
  | unOp op t x => simp only [opA]; rw [hm x (by simp [Op.operands])]
  | convert s d x => simp only [opA]; rw [hm x (by simp [Op.operands])]
  | makeFunc fn first captured =>
    cases fn with
    | func f =>
      simp only [opA]
      rw [evalsA_agree (env := env) (env' := env') fun x hx => hm x (by simp [Op.operands]; exact .inl (by simpa using hx)), evalsA_agree (env := env) (env' := env') fun x hx => hm x (by simp [Op.operands]; exact .inr (by simpa using hx))]
    | _ => rfl
  | makeSlice t l c => simp only [opA]; rw [hm l (by simp [Op.operands]), hm c (by simp [Op.operands])]
  | slice t x lo hi mx =>
    simp only [opA]
    rw [hm x (by simp [Op.operands]), evalO_agree (env := env) (env' := env') (x := lo) fun y hy => hm y (by subst hy; simp [Op.operands]), evalO_agree (env := env) (env' := env') (x := hi) fun y hy => hm y (by subst hy; simp [Op.operands]),
      evalO_agree (env := env) (env' := env') (x := mx) fun y hy => hm y (by subst hy; simp [Op.operands])]
  | fieldAddr s x f => simp only [opA]; rw [hm x (by simp [Op.operands])]
  | field s x f => simp only [opA]; rw [hm x (by simp [Op.operands])]
  | indexAddr t x i => simp only [opA]; rw [hm x (by simp [Op.operands]), hm i (by simp [Op.operands])]
  | index t x i => simp only [opA]; rw [hm x (by simp [Op.operands]), hm i (by simp [Op.operands])]
  | extract x i => simp only [opA]; rw [hm x (by simp [Op.operands])]
  | call c =>
    have ha : evalsA env c.args.toList = evalsA env' c.args.toList := evalsA_agree fun x hx => hm x (by simp [Op.operands, Call.operands]; exact .inr (by simpa using hx))
    simp only [opA]
    cases hc : c.callee with
    | builtin b => simp only [ha]
    | value f =>
      have hf : evalA env f = evalA env' f := hm f (by simp [Op.operands, Call.operands, hc])
      simp only [ha, hf]
    | invoke r n => rfl
  | _ => rfl

theorem wantedA_agree {all : List Oper} {o : Oper} (h : ∀ g w d, o.guard = some (g, w) → (all[g]?).bind (·.dst) = some d → getX env d = getX env' d) : wantedA all env o = wantedA all env' o := by
  unfold wantedA
  cases hg : o.guard with
  | none => rfl
  | some p =>
    obtain ⟨j, want⟩ := p
    simp only
    cases hd : (all[j]?).bind (·.dst) with
    | none => rfl
    | some d => simp only [h j want d hg hd]

theorem looks_agree {all : List Oper} {o : Oper} (h : Agree env env' (looks all o)) : wantedA all env o = wantedA all env' o ∧ ∀ (base : Nat) (slot : Option Nat) (G : Heap), opA C cl base slot env G o.op = opA C cl base slot env' G o.op := by
  refine ⟨wantedA_agree fun g w d hg hd => h d ?_, fun base slot G => opA_agree fun t ht => h t ?_⟩
  · unfold looks; rw [hg]; simp [hd]
  · unfold looks; exact List.mem_append_left _ ht

/-! ### by kinds -/
theorem cls_pure {op : Op} {v : AVal} (hc : clsOf C.P op = .pure) (e : opA C cl base slot env G op = some (v, G')) : G' = G ∧ ∀ (sl : Option Nat) (X : Heap), opA C cl base sl env X op = some (v, X) := by
  have same : ∀ {y : AVal}, (y, G) = (v, G') → G' = G ∧ y = v := fun {y} h => by simp at h; exact ⟨h.2.symm, h.1⟩
  unfold opA at e
  split at e
  · simp only [Option.map_eq_some_iff] at e; obtain ⟨y, h1, e⟩ := e; obtain ⟨rfl, rfl⟩ := same e; exact ⟨rfl, fun _ X => by simp only [opA, h1, Option.map_some]⟩
  · simp only [Option.map_eq_some_iff] at e; obtain ⟨y, h1, e⟩ := e; obtain ⟨rfl, rfl⟩ := same e; exact ⟨rfl, fun _ X => by simp only [opA, h1, Option.map_some]⟩
  · split at e
    · rename_i hq
      simp only [Option.map_eq_some_iff] at e; obtain ⟨y, h1, e⟩ := e; obtain ⟨rfl, rfl⟩ := same e; exact ⟨rfl, fun _ X => by simp only [opA, hq, h1, Option.map_some]⟩
    · rename_i hq
      simp only [Option.map_eq_some_iff] at e; obtain ⟨y, h1, e⟩ := e; obtain ⟨rfl, rfl⟩ := same e; exact ⟨rfl, fun _ X => by simp only [opA, hq, h1, Option.map_some]⟩
    · cases e
  · simp [clsOf] at hc
  · simp [clsOf] at hc
  · simp only [Option.bind_eq_bind, Option.bind_eq_some_iff, Option.map_eq_some_iff] at e
    obtain ⟨ps, h1, y, h2, e⟩ := e; obtain ⟨rfl, rfl⟩ := same e; exact ⟨rfl, fun _ X => by simp only [opA, h1, h2, Option.bind_eq_bind, Option.bind_some, Option.map_some]⟩
  · simp [clsOf] at hc
  · simp [clsOf] at hc
  · simp [clsOf] at hc
  · split at e
    · rename_i h1; simp at e; obtain ⟨rfl, rfl⟩ := e; exact ⟨rfl, fun _ X => by simp only [opA, h1]⟩
    · rename_i h1; simp at e; obtain ⟨rfl, rfl⟩ := e; exact ⟨rfl, fun _ X => by simp only [opA, h1]⟩
    · rename_i h1; simp at e; obtain ⟨rfl, rfl⟩ := e; exact ⟨rfl, fun _ X => by simp only [opA, h1]⟩
    · cases e
  · simp only [Option.bind_eq_bind, Option.bind_eq_some_iff, Option.map_eq_some_iff] at e
    obtain ⟨p, h1, q, h2, y, h3, e⟩ := e; obtain ⟨rfl, rfl⟩ := same e; exact ⟨rfl, fun _ X => by simp only [opA, h1, h2, h3, Option.bind_eq_bind, Option.bind_some, Option.map_some]⟩
  · simp only [Option.bind_eq_bind, Option.bind_eq_some_iff, Option.map_eq_some_iff] at e
    obtain ⟨p, h1, y, h3, e⟩ := e; obtain ⟨rfl, rfl⟩ := same e; exact ⟨rfl, fun _ X => by simp only [opA, h1, h3, Option.bind_eq_bind, Option.bind_some, Option.map_some]⟩
  · rename_i s d x
    simp only [Option.bind_eq_bind, Option.bind_eq_some_iff] at e
    obtain ⟨p, h1, e⟩ := e
    simp only [clsOf] at hc
    split at hc
    · cases hc
    rename_i hd
    split at hc
    · cases hc
    rename_i hs
    unfold convA at e
    split at e
    · rename_i k1 k2
      simp at e; obtain ⟨rfl, rfl⟩ := e
      exact ⟨rfl, fun _ X => by simp [opA, h1, convA, k1, k2]⟩
    · rename_i k1 k2
      simp at e; obtain ⟨rfl, rfl⟩ := e
      exact ⟨rfl, fun _ X => by simp [opA, h1, convA, k1, k2]⟩
    · rename_i k1 k2; exact (hd _ k2).elim
    · rename_i k1 k2 _; exact (hs _ k1).elim
    · cases e
  · simp only [Option.bind_eq_bind, Option.bind_eq_some_iff, Option.some.injEq] at e
    obtain ⟨p, h1, q, h2, e⟩ := e; obtain ⟨rfl, rfl⟩ := same e; exact ⟨rfl, fun _ X => by simp only [opA, h1, h2, Option.bind_eq_bind, Option.bind_some]⟩
  · simp [clsOf] at hc
  · simp only [Option.bind_eq_bind, Option.bind_eq_some_iff, Option.map_eq_some_iff] at e
    obtain ⟨p, h1, l, h2, k, h3, q, h4, y, h5, e⟩ := e; obtain ⟨rfl, rfl⟩ := same e; exact ⟨rfl, fun _ X => by simp only [opA, h1, h2, h3, h4, h5, Option.bind_eq_bind, Option.bind_some, Option.map_some]⟩
  · simp only [Option.bind_eq_bind, Option.bind_eq_some_iff, Option.map_eq_some_iff] at e
    obtain ⟨p, h1, y, h3, e⟩ := e; obtain ⟨rfl, rfl⟩ := same e; exact ⟨rfl, fun _ X => by simp only [opA, h1, h3, Option.bind_eq_bind, Option.bind_some, Option.map_some]⟩
  · simp only [Option.bind_eq_bind, Option.bind_eq_some_iff, Option.map_eq_some_iff] at e
    obtain ⟨p, h1, y, h3, e⟩ := e; obtain ⟨rfl, rfl⟩ := same e; exact ⟨rfl, fun _ X => by simp only [opA, h1, h3, Option.bind_eq_bind, Option.bind_some, Option.map_some]⟩
  · simp only [Option.bind_eq_bind, Option.bind_eq_some_iff, Option.map_eq_some_iff] at e
    obtain ⟨p, h1, q, h2, y, h3, e⟩ := e; obtain ⟨rfl, rfl⟩ := same e; exact ⟨rfl, fun _ X => by simp only [opA, h1, h2, h3, Option.bind_eq_bind, Option.bind_some, Option.map_some]⟩
  · simp only [Option.bind_eq_bind, Option.bind_eq_some_iff, Option.map_eq_some_iff] at e
    obtain ⟨p, h1, q, h2, y, h3, e⟩ := e; obtain ⟨rfl, rfl⟩ := same e; exact ⟨rfl, fun _ X => by simp only [opA, h1, h2, h3, Option.bind_eq_bind, Option.bind_some, Option.map_some]⟩
  · split at e
    case h_2 => cases e
    rename_i h1
    split at e
    case h_2 => cases e
    rename_i h2
    simp only [Option.some.injEq] at e
    obtain ⟨rfl, rfl⟩ := same e; exact ⟨rfl, fun _ X => by simp only [opA, h1, h2]⟩
  · rename_i c
    simp only [clsOf] at hc
    split at e
    · rename_i b hcal
      rw [hcal] at hc
      simp only [Option.bind_eq_bind, Option.bind_eq_some_iff] at e
      obtain ⟨args, h1, e⟩ := e
      have hb : b = .len ∨ b = .cap ∨ b = .max ∨ b = .min := by
        cases b <;> simp at hc <;> simp
      suffices h : G' = G ∧ ∀ (sl : Option Nat) (X : Heap), builtinA C.P X base sl b c.argTypes.toList args = some (v, X) from
        ⟨h.1, fun sl X => by simp only [opA, hcal, h1, Option.bind_eq_bind, Option.bind_some, h.2]⟩
      rcases hb with rfl | rfl | rfl | rfl
      · cases hts : c.argTypes.toList with
        | nil => rw [hts] at e; simp [builtinA] at e
        | cons t ts =>
          cases args with
          | nil => rw [hts] at e; simp [builtinA] at e
          | cons x xs =>
            rw [hts] at e
            simp only [builtinA] at e ⊢
            split at e
            · rename_i hu; simp at e; obtain ⟨rfl, rfl⟩ := e; exact ⟨rfl, fun _ X => rfl⟩
            · rename_i hu; simp at e; obtain ⟨rfl, rfl⟩ := e; exact ⟨rfl, fun _ X => rfl⟩
            · rename_i hu; simp at e; obtain ⟨rfl, rfl⟩ := e; exact ⟨rfl, fun _ X => rfl⟩
            · rename_i hu; simp at e; obtain ⟨rfl, rfl⟩ := e; exact ⟨rfl, fun _ X => rfl⟩
            · split at e
              · simp at e; obtain ⟨rfl, rfl⟩ := e; exact ⟨rfl, fun _ X => rfl⟩
              · cases e
            · cases e
      · cases hts : c.argTypes.toList with
        | nil => rw [hts] at e; simp [builtinA] at e
        | cons t ts =>
          cases args with
          | nil => rw [hts] at e; simp [builtinA] at e
          | cons x xs =>
            rw [hts] at e
            simp only [builtinA] at e ⊢
            split at e
            · simp at e; obtain ⟨rfl, rfl⟩ := e; exact ⟨rfl, fun _ X => rfl⟩
            · simp at e; obtain ⟨rfl, rfl⟩ := e; exact ⟨rfl, fun _ X => rfl⟩
            · cases e
      · cases args with
        | nil => simp [builtinA] at e
        | cons x xs =>
          simp only [builtinA, Option.map_eq_some_iff] at e ⊢
          obtain ⟨y, hy, e⟩ := e
          simp at e; obtain ⟨rfl, rfl⟩ := e
          exact ⟨rfl, fun _ X => ⟨y, hy, rfl⟩⟩
      · cases args with
        | nil => simp [builtinA] at e
        | cons x xs =>
          simp only [builtinA, Option.map_eq_some_iff] at e ⊢
          obtain ⟨y, hy, e⟩ := e
          simp at e; obtain ⟨rfl, rfl⟩ := e
          exact ⟨rfl, fun _ X => ⟨y, hy, rfl⟩⟩
    · rename_i f hcal
      rw [hcal] at hc
      cases hc
    · cases e
  · cases e
end Go.Abs
end
section
/-
  A region whose order is open: what each kind of operation reads and turns.
-/
set_option linter.unusedSimpArgs false
set_option linter.unusedVariables false
namespace Go.Abs
open Go

variable {C : Cfg} {P : Program} {G G' X : Heap} {base : Nat} {slot : Option Nat} {cl : Caller} {env env' : List AVal}

theorem srcCells_agree {size n : Nat} {a : AVal} (h : ∀ l, l ∈ locOf a → hget X l = hget G l) : srcCells X size n a = srcCells G size n a := by
  cases a <;> simp only [srcCells]
  rename_i l o n' c
  rw [h l (by simp [locOf])]

theorem cls_rd {op : Op} {v : AVal} (hc : clsOf C.P op = .rd) (e : opA C cl base slot env G op = some (v, G')) :
    G' = G ∧ ∀ (sl : Option Nat) (X : Heap), (∀ l, l ∈ rdLocs env op → hget X l = hget G l) → opA C cl base sl env X op = some (v, X) := by
  cases op with
  | load t a =>
    simp only [opA, Option.bind_eq_bind, Option.bind_eq_some_iff, Option.map_eq_some_iff] at e
    obtain ⟨p, h1, y, h2, e⟩ := e
    simp at e; obtain ⟨rfl, rfl⟩ := e
    refine ⟨rfl, fun sl X hX => ?_⟩
    simp only [opA, h1, Option.bind_eq_bind, Option.bind_some]
    suffices h : loadA C.P X t p = some y by rw [h]; rfl
    have hl : ∀ l, l ∈ locOf p → hget X l = hget G l := by simpa [rdLocs, h1] using hX
    unfold loadA at h2 ⊢
    split at h2
    · rename_i l o
      rw [hl l (by simp [locOf])]; exact h2
    · exact h2
    · cases h2
  | convert s d x =>
    simp only [opA, Option.bind_eq_bind, Option.bind_eq_some_iff] at e
    obtain ⟨p, h1, e⟩ := e
    have hX' : ∀ X, (∀ l, l ∈ rdLocs env (.convert s d x) → hget X l = hget G l) → ∀ l, l ∈ locOf p → hget X l = hget G l := fun X h => by simpa [rdLocs, h1] using h
    simp only [clsOf] at hc
    split at hc
    · cases hc
    rename_i hd
    unfold convA at e
    split at e
    · rename_i k1 k2
      simp at e; obtain ⟨rfl, rfl⟩ := e
      exact ⟨rfl, fun _ X _ => by simp [opA, h1, convA, k1, k2]⟩
    · rename_i k1 k2
      simp at e; obtain ⟨rfl, rfl⟩ := e
      exact ⟨rfl, fun _ X _ => by simp [opA, h1, convA, k1, k2]⟩
    · rename_i k1 k2; exact (hd _ k2).elim
    · rename_i e' x' k1 k2 hne
      split at e
      case isFalse => cases e
      rename_i hu
      simp only [Option.bind_eq_bind, Option.bind_eq_some_iff] at e
      obtain ⟨n, q1, _, q2, cs, q3, bs, q4, e⟩ := e
      simp at e; obtain ⟨rfl, rfl⟩ := e
      refine ⟨rfl, fun _ X hX => ?_⟩
      simp only [opA, h1, Option.bind_eq_bind, Option.bind_some, convA, k1, k2]
      rw [if_pos hu, q1]
      simp only [Option.bind_some]
      rw [srcCells_agree (G := G) (hX' X hX), q3, q2]
      simp [q4]
    · cases e
  | call c =>
    simp only [clsOf] at hc
    split at hc <;> cases hc
  | _ => simp [clsOf] at hc

theorem halloc_slot {s l : Nat} {b : Blk} (e : halloc G (some s) b = some (l, G')) : l = s ∧ G' = G.set s (some b) ∧ G[s]? = some none ∧ ∀ X : Heap, X[s]? = some none → halloc X (some s) b = some (s, X.set s (some b)) := by
  unfold halloc at e
  split at e
  case isFalse => cases e
  rename_i h1
  simp only at e
  split at e
  case h_2 => cases e
  rename_i hg
  simp at e; obtain ⟨rfl, rfl⟩ := e
  refine ⟨rfl, rfl, hg, fun X hX => ?_⟩
  unfold halloc
  rw [if_pos h1]
  simp only [hX]

/-- it fills its own place, and does so anywhere -/
def Fills (C : Cfg) (cl : Caller) (base s : Nat) (env : List AVal) (G G' : Heap) (op : Op) (v : AVal) : Prop :=
  ∃ b, G' = G.set s (some b) ∧ G[s]? = some none ∧ ∀ X : Heap, X[s]? = some none → opA C cl base (some s) env X op = some (v, X.set s (some b))

theorem cls_al {op : Op} {v : AVal} {s : Nat} (hc : clsOf C.P op = .al) (e : opA C cl base (some s) env G op = some (v, G')) : Fills C cl base s env G G' op v := by
  cases op with
  | alloc t =>
    simp only [opA, Option.bind_eq_bind, Option.bind_eq_some_iff] at e
    obtain ⟨z, h1, ⟨l, G1⟩, h2, e⟩ := e
    simp at e; obtain ⟨rfl, rfl⟩ := e
    obtain ⟨rfl, rfl, hg, hX⟩ := halloc_slot h2
    exact ⟨_, rfl, hg, fun X h => by simp only [opA, h1, hX X h, Option.bind_eq_bind, Option.bind_some]⟩
  | box t x =>
    simp only [opA, Option.bind_eq_bind, Option.bind_eq_some_iff] at e
    obtain ⟨z, h1, ⟨l, G1⟩, h2, e⟩ := e
    simp at e; obtain ⟨rfl, rfl⟩ := e
    obtain ⟨rfl, rfl, hg, hX⟩ := halloc_slot h2
    exact ⟨_, rfl, hg, fun X h => by simp only [opA, h1, hX X h, Option.bind_eq_bind, Option.bind_some]⟩
  | buildSlice t n ps =>
    simp only [opA, buildSliceA, Option.bind_eq_bind, Option.bind_eq_some_iff] at e
    obtain ⟨ps', h1, e', h2, sz, h3, _, h4, z, h5, _, h6, cells, h7, ⟨l, G1⟩, h8, e⟩ := e
    simp at e; obtain ⟨rfl, rfl⟩ := e
    obtain ⟨rfl, rfl, hg, hX⟩ := halloc_slot h8
    exact ⟨_, rfl, hg, fun X h => by simp only [opA, buildSliceA, h1, h2, h3, h4, h5, h6, h7, hX X h, Option.bind_eq_bind, Option.bind_some]⟩
  | makeSlice t l c =>
    simp only [opA, makeSliceA, Option.bind_eq_bind, Option.bind_eq_some_iff] at e
    obtain ⟨vl, h1, vc, h2, e', h3, sz, h4, by_, h5, z, h6, _, h7, e⟩ := e
    split at e
    case h_2 => cases e
    split at e
    case isFalse => cases e
    rename_i hcnd
    simp only [Option.bind_eq_some_iff] at e
    obtain ⟨⟨l, G1⟩, h8, e⟩ := e
    simp at e; obtain ⟨rfl, rfl⟩ := e
    obtain ⟨rfl, rfl, hg, hX⟩ := halloc_slot h8
    exact ⟨_, rfl, hg, fun X h => by simp only [opA, makeSliceA, h1, h2, h3, h4, h5, h6, h7, if_pos hcnd, hX X h, Option.bind_eq_bind, Option.bind_some]⟩
  | convert s' d x =>
    simp only [opA, Option.bind_eq_bind, Option.bind_eq_some_iff] at e
    obtain ⟨p, h1, e⟩ := e
    simp only [clsOf] at hc
    split at hc
    case h_2 => split at hc <;> cases hc
    rename_i e1 hd
    unfold convA at e
    split at e
    · rename_i k1 k2; rw [hd] at k2; cases k2
    · rename_i k1 k2; rw [hd] at k2; cases k2
    · rename_i k1 k2
      split at e
      case isFalse => cases e
      rename_i hu
      simp only [Option.bind_eq_bind, Option.bind_eq_some_iff] at e
      obtain ⟨⟨l, G1⟩, h8, e⟩ := e
      simp at e; obtain ⟨rfl, rfl⟩ := e
      obtain ⟨rfl, rfl, hg, hX⟩ := halloc_slot h8
      exact ⟨_, rfl, hg, fun X h => by simp only [opA, convA, h1, k1, k2, if_pos hu, hX X h, Option.bind_eq_bind, Option.bind_some]⟩
    · rename_i k1 k2 _; rw [hd] at k2; cases k2
    · cases e
  | call c =>
    simp only [clsOf] at hc
    split at hc <;> cases hc
  | _ => simp [clsOf] at hc

/-! ### what it turns -/
theorem write_touch {l0 o : Nat} {vs : List AVal} (e : write G base l0 o vs = some G') {l : Nat} (hl : l ≠ l0) : hget G' l = hget G l := by
  unfold write at e
  split at e
  case h_2 => cases e
  rename_i b hb
  split at e
  case isFalse => cases e
  simp at e; subst e
  rw [hget_set _ _ _ _ (hget_lt hb), if_neg hl]

theorem halloc_touch {s l0 : Nat} {b : Blk} (e : halloc G (some s) b = some (l0, G')) {l : Nat} (hl : l ≠ s) : hget G' l = hget G l := by
  obtain ⟨rfl, rfl, hg, _⟩ := halloc_slot e
  have hlt : l0 < G.length := by
    rcases Nat.lt_or_ge l0 G.length with h' | h'
    · exact h'
    · simp [List.getElem?_eq_none h'] at hg
  rw [hget_set _ _ _ _ hlt, if_neg hl]

theorem appendA_touch {s : Nat} {el : TypeId} {sv v : AVal} {n : Nat} {new : List AVal} (e : appendA P G base (some s) el sv n new = some (v, G')) {l : Nat} (hl : l ≠ s) (hd : l ∉ locOf sv) : hget G' l = hget G l := by
  unfold appendA at e
  simp only [Option.bind_eq_bind, Option.bind_eq_some_iff] at e
  obtain ⟨size, h1, by_, h2, _, h3, _, h4, e⟩ := e
  split at e
  · rename_i l0 off len cap
    have hne : l ≠ l0 := by simpa [locOf] using hd
    split at e
    · simp at e; obtain ⟨rfl, rfl⟩ := e; rfl
    split at e
    · cases e
    rename_i b hb
    split at e
    · split at e
      · split at e
        · cases e
        · simp only [Option.bind_eq_some_iff] at e
          obtain ⟨h', h5, e⟩ := e
          simp at e; obtain ⟨rfl, rfl⟩ := e
          exact write_touch h5 hne
      · split at e
        case isFalse => cases e
        simp only [Option.bind_eq_some_iff] at e
        obtain ⟨⟨l', h'⟩, h5, e⟩ := e
        simp at e; obtain ⟨rfl, rfl⟩ := e
        exact halloc_touch h5 hl
    · split at e
      case isFalse => cases e
      simp only [Option.bind_eq_some_iff] at e
      obtain ⟨⟨l', h'⟩, h5, e⟩ := e
      simp at e; obtain ⟨rfl, rfl⟩ := e
      rw [halloc_touch h5 hl, hget_set _ _ _ _ (hget_lt hb), if_neg hne]
  · split at e
    · simp at e; obtain ⟨rfl, rfl⟩ := e; rfl
    split at e
    case isFalse => cases e
    simp only [Option.bind_eq_some_iff] at e
    obtain ⟨⟨l', h'⟩, h5, e⟩ := e
    simp at e; obtain ⟨rfl, rfl⟩ := e
    exact halloc_touch h5 hl
  · cases e

def CallTouch (C : Cfg) (cl : Caller) : Prop := ∀ base f args G v G', cl base f args G = some (v, G') →
  (match C.ext f with | some _ => some ([] : List Nat) | none => match C.kind f with | .full => none | _ => some []) = some [] → ∀ l, l < G.length → hget G' l = hget G l

theorem opA_touch (hcl : CallTouch C cl) {op : Op} {v : AVal} {s : Nat} (e : opA C cl base (some s) env G op = some (v, G')) {T : List Nat} (ht : touchOf C env s op = some T) {l : Nat} (hl : l ∉ T) (hlt : l < G.length) : hget G' l = hget G l := by
  cases op with
  | call c =>
    simp only [touchOf] at ht
    simp only [opA] at e
    split at e
    · rename_i b hb
      rw [hb] at ht
      simp only [Option.bind_eq_bind, Option.bind_eq_some_iff] at e
      obtain ⟨args, h1, e⟩ := e
      cases b <;> simp at ht
      cases hca : c.args.toList with
      | nil => rw [hca] at ht; simp at ht
      | cons s0 rest =>
        rw [hca] at ht h1
        simp only [evalsA] at h1
        simp only at ht
        split at ht
        case h_2 => cases ht
        rename_i v0 hv0
        simp at ht; subst ht
        rw [hv0] at h1
        simp only at h1
        split at h1
        case h_2 => cases h1
        rename_i vs hvs
        simp at h1; subst h1
        simp at hl
        cases hts : c.argTypes.toList with
        | nil => rw [hts] at e; simp [builtinA] at e
        | cons t ts =>
          rw [hts] at e
          cases vs with
          | nil => simp [builtinA] at e
          | cons x xs =>
            simp only [builtinA, Option.bind_eq_bind, Option.bind_eq_some_iff] at e
            obtain ⟨e1, q1, sz, q2, z, q3, _, q4, isInt, q5, e⟩ := e
            split at e
            · split at e
              case h_2 => cases e
              simp only [Option.bind_eq_some_iff] at e
              obtain ⟨by_, q6, e⟩ := e
              split at e
              case isFalse => cases e
              exact appendA_touch e hl.1 hl.2
            · simp only [Option.bind_eq_some_iff] at e
              obtain ⟨n, q6, new, q7, e⟩ := e
              exact appendA_touch e hl.1 hl.2
    · rename_i f hf
      rw [hf] at ht
      simp only at ht
      split at e
      case h_2 => cases e
      rename_i g first captured hg
      rw [hg] at ht
      simp only [Option.bind_eq_bind, Option.bind_eq_some_iff] at e
      obtain ⟨args, q1, _, q2, e⟩ := e
      refine hcl _ _ _ _ _ _ e ?_ l hlt
      simp only at ht
      split at ht
      · rename_i k hk; simp [hk]
      · rename_i hk
        split at ht
        · cases ht
        · rename_i hkk
          simp only [hk]
    · cases e
  | _ => simp [touchOf] at ht
end Go.Abs
end
section
/-
  A region whose order is open: the text's order, step by step, and what each row shows.
-/
set_option linter.unusedSimpArgs false
set_option linter.unusedVariables false
namespace Go.Abs
open Go

variable {C : Cfg} {P : Program} {cl : Caller} {base n c : Nat} {all : List Oper} {bs : List Nat}

inductive DFact (C : Cfg) (cl : Caller) (base n c : Nat) (all : List Oper) (bs : List Nat) (i : Nat) (o : Oper) (s : DS) : AVal → DS → Prop where
  | off {env : List AVal} (hw : wantedA all s.env o = false) (hp : putA n s.env o.dst .undef = some env) : DFact C cl base n c all bs i o s .undef { s with env := env }
  | pure {env : List AVal} {v : AVal} {G' : Heap} (hw : wantedA all s.env o = true) (hc : clsOf C.P o.op = .pure) (he : opA C cl base none s.env s.G o.op = some (v, G'))
      (hp : putA n s.env o.dst v = some env) : DFact C cl base n c all bs i o s v { s with env := env }
  | rd {env : List AVal} {v : AVal} {G' : Heap} (hw : wantedA all s.env o = true) (hc : clsOf C.P o.op = .rd) (hr : readsOk bs c all.length i (rdLocs s.env o.op) s.es = true)
      (he : opA C cl base none s.env (mergeF c (fun _ => true) s.fl s.G) o.op = some (v, G')) (hp : putA n s.env o.dst v = some env) :
      DFact C cl base n c all bs i o s v { s with env := env, rs := (i, rdLocs s.env o.op) :: s.rs }
  | al {env : List AVal} {v : AVal} {G' : Heap} {b : Blk} (hw : wantedA all s.env o = true) (hc : clsOf C.P o.op = .al) (he : opA C cl base (some (c + i)) s.env s.G o.op = some (v, G'))
      (hb : hget G' (c + i) = some b) (hp : putA n s.env o.dst v = some env) : DFact C cl base n c all bs i o s v { s with env := env, fl := (i, b) :: s.fl }
  | eff {env : List AVal} {v : AVal} {G' : Heap} (hw : wantedA all s.env o = true) (hc : clsOf C.P o.op = .eff) (hr : effOk bs i (touchOf C s.env (c + i) o.op) s.rs s.es s.G.length = true)
      (he : opA C cl base (some (c + i)) s.env (mergeF c (waitsB bs i) s.fl s.G) o.op = some (v, G')) (hp : putA n s.env o.dst v = some env) :
      DFact C cl base n c all bs i o s v { env := env, G := G', fl := s.fl.filter fun f => !waitsB bs i f.1, rs := s.rs, es := (i, touchOf C s.env (c + i) o.op, (mergeF c (waitsB bs i) s.fl s.G).length) :: s.es }

theorem dstep_fact {i : Nat} {o : Oper} {s s' : DS} (e : dstep C cl base n c all bs i o s = some s') : ∃ v, DFact C cl base n c all bs i o s v s' := by
  unfold dstep at e
  split at e
  · rename_i hw
    split at e
    · rename_i hc
      split at e
      case h_2 => cases e
      rename_i he
      split at e
      case h_2 => cases e
      rename_i hp
      simp at e; subst e
      exact ⟨_, .pure hw hc he hp⟩
    · rename_i hc
      simp only at e
      split at e
      case isFalse => cases e
      rename_i hr
      split at e
      case h_2 => cases e
      rename_i he
      split at e
      case h_2 => cases e
      rename_i hp
      simp at e; subst e
      exact ⟨_, .rd hw hc hr he hp⟩
    · rename_i hc
      split at e
      case h_2 => cases e
      rename_i he
      split at e
      case h_2 => cases e
      rename_i hb
      split at e
      case h_2 => cases e
      rename_i hp
      simp at e; subst e
      exact ⟨_, .al hw hc he hb hp⟩
    · rename_i hc
      simp only at e
      split at e
      case isFalse => cases e
      rename_i hr
      split at e
      case h_2 => cases e
      rename_i he
      split at e
      case h_2 => cases e
      rename_i hp
      simp at e; subst e
      exact ⟨_, .eff hw hc hr he hp⟩
  · rename_i hw
    split at e
    case h_2 => cases e
    rename_i hp
    simp at e; subst e
    exact ⟨_, .off (by simpa using hw) hp⟩

theorem dsteps_run : ∀ {os : List Oper} {i : Nat} {s t : DS}, dsteps C cl base n c all bs i os s = some t →
    ∃ (S : Nat → DS) (vs : Nat → AVal), S i = s ∧ S (i + os.length) = t ∧ ∀ k o, os[k]? = some o → DFact C cl base n c all bs (i + k) o (S (i + k)) (vs (i + k)) (S (i + k + 1))
  | [], i, s, t, e => by simp [dsteps] at e; subst e; exact ⟨fun _ => s, fun _ => .undef, rfl, rfl, fun k o h => by simp at h⟩
  | o :: os, i, s, t, e => by
    simp only [dsteps] at e
    split at e
    case h_2 => cases e
    rename_i s1 h1
    obtain ⟨v, hv⟩ := dstep_fact h1
    obtain ⟨S, vs, k1, k2, k3⟩ := dsteps_run e
    refine ⟨fun k => if k = i then s else S k, fun k => if k = i then v else vs k, by simp, ?_, fun k o' ho => ?_⟩
    · simp only [List.length_cons]
      rw [if_neg (by omega)]
      rw [← k2]; congr 1; omega
    · cases k with
      | zero =>
        simp at ho; subst ho
        simp only [Nat.add_zero, if_true]
        rw [if_neg (by omega), k1]
        exact hv
      | succ k =>
        simp at ho
        have := k3 k o' ho
        simp only
        rw [if_neg (by omega), if_neg (by omega), if_neg (by omega)]
        rw [show i + (k + 1) = i + 1 + k by omega]
        exact this

/-! ### the order -/
theorem orderly_back (h : orderly all bs = true) {i j : Nat} (hw : waitsB bs i j = true) : j < i := by
  unfold orderly at h
  simp only [Bool.and_eq_true, List.all_eq_true] at h
  unfold waitsB at hw
  rcases Nat.lt_or_ge i bs.length with hi | hi
  · have := h.1 (bs[i], i) (by rw [List.mem_zipIdx_iff_getElem?]; simp [hi])
    simp at this
    rw [List.getD_eq_getElem?_getD, List.getElem?_eq_getElem hi] at hw
    simp at hw
    rcases Nat.lt_or_ge j i with hj | hj
    · exact hj
    · rw [Nat.testBit_lt_two_pow (Nat.lt_of_lt_of_le this (Nat.pow_le_pow_right (by omega) hj))] at hw; cases hw
  · rw [List.getD_eq_getElem?_getD, List.getElem?_eq_none hi] at hw
    simp at hw

theorem orderly_pair (h : orderly all bs = true) {i j : Nat} {o q : Oper} {t : Nat} (hj : all[j]? = some o) (hi : all[i]? = some q) (hne : i ≠ j) (hq : q.dst = some t) (ht : t ∈ names all o) :
    waitsB bs (max i j) (min i j) = true := by
  unfold orderly at h
  simp only [Bool.and_eq_true, List.all_eq_true] at h
  have := h.2 (o, j) (by rw [List.mem_zipIdx_iff_getElem?]; exact hj) (q, i) (by rw [List.mem_zipIdx_iff_getElem?]; exact hi)
  simp only [hq, Bool.or_eq_true, beq_iff_eq, Bool.not_eq_true', List.contains_eq_mem, decide_eq_false_iff_not] at this
  rcases this with h1 | h1 | h1
  · exact absurd h1 hne
  · exact absurd ht (by simpa using h1)
  · exact h1

/-! ### who wrote a place last -/
/-- each place shows what the last writer among D wrote -/
def EnvAt (all : List Oper) (vs : Nat → AVal) (env0 : List AVal) (D : Nat → Prop) (env : List AVal) : Prop := ∀ t,
  (∃ j o, D j ∧ all[j]? = some o ∧ o.dst = some t ∧ getX env t = vs j ∧ ∀ j' o', D j' → all[j']? = some o' → o'.dst = some t → j' ≤ j) ∨
  ((∀ j' o', D j' → all[j']? = some o' → o'.dst ≠ some t) ∧ getX env t = getX env0 t)

variable {vs : Nat → AVal} {env0 env env' : List AVal} {D D' : Nat → Prop}

theorem EnvAt.put {i : Nat} {o : Oper} (h : EnvAt all vs env0 D env) (ho : all[i]? = some o) (hp : putA n env o.dst (vs i) = some env')
    (hlast : ∀ t, o.dst = some t → ∀ j o', D j → all[j]? = some o' → o'.dst = some t → j < i) : EnvAt all vs env0 (fun j => D j ∨ j = i) env' := by
  intro t
  unfold putA at hp
  split at hp
  · rename_i hd
    simp at hp; subst hp
    rcases h t with ⟨j, o', h1, h2, h3, h4, h5⟩ | ⟨h1, h2⟩
    · refine .inl ⟨j, o', .inl h1, h2, h3, h4, fun j' q hj hq hqt => ?_⟩
      rcases hj with hj | rfl
      · exact h5 j' q hj hq hqt
      · rw [ho] at hq; simp at hq; subst hq; rw [hd] at hqt; cases hqt
    · refine .inr ⟨fun j' q hj hq => ?_, h2⟩
      rcases hj with hj | rfl
      · exact h1 j' q hj hq
      · rw [ho] at hq; simp at hq; subst hq; rw [hd]; simp
  · rename_i d hd
    split at hp
    case isFalse => cases hp
    simp at hp; subst hp
    by_cases htd : d = t
    · subst htd
      refine .inl ⟨i, o, .inr rfl, ho, hd, by simp, fun j' q hj hq hqt => ?_⟩
      rcases hj with hj | rfl
      · exact Nat.le_of_lt (hlast d hd j' q hj hq hqt)
      · exact Nat.le_refl _
    · rw [getX_setX, if_neg htd]
      rcases h t with ⟨j, o', h1, h2, h3, h4, h5⟩ | ⟨h1, h2⟩
      · refine .inl ⟨j, o', .inl h1, h2, h3, h4, fun j' q hj hq hqt => ?_⟩
        rcases hj with hj | rfl
        · exact h5 j' q hj hq hqt
        · rw [ho] at hq; simp at hq; subst hq; rw [hd] at hqt; simp at hqt; exact absurd hqt htd
      · refine .inr ⟨fun j' q hj hq => ?_, h2⟩
        rcases hj with hj | rfl
        · exact h1 j' q hj hq
        · rw [ho] at hq; simp at hq; subst hq; rw [hd]; simpa using htd

theorem EnvAt.agree {t : Nat} (h : EnvAt all vs env0 D env) (h' : EnvAt all vs env0 D' env') (he : ∀ j o, all[j]? = some o → o.dst = some t → (D j ↔ D' j)) : getX env t = getX env' t := by
  rcases h t with ⟨j, o, h1, h2, h3, h4, h5⟩ | ⟨h1, h2⟩
  · rcases h' t with ⟨k, q, g1, g2, g3, g4, g5⟩ | ⟨g1, g2⟩
    · have a1 := h5 k q ((he k q g2 g3).2 g1) g2 g3
      have a2 := g5 j o ((he j o h2 h3).1 h1) h2 h3
      obtain rfl : j = k := by omega
      rw [h4, g4]
    · exact absurd h3 (g1 j o ((he j o h2 h3).1 h1) h2)
  · rcases h' t with ⟨k, q, g1, g2, g3, g4, g5⟩ | ⟨g1, g2⟩
    · exact absurd g3 (h1 k q ((he k q g2 g3).2 g1) g2)
    · rw [h2, g2]

theorem EnvAt.iff (h : EnvAt all vs env0 D env) (he : ∀ j, D j ↔ D' j) : EnvAt all vs env0 D' env := by
  obtain rfl : D = D' := funext fun j => propext (he j)
  exact h
end Go.Abs
end
section
/-
  A region whose order is open: what is known along the text's order.
-/
set_option linter.unusedSimpArgs false
set_option linter.unusedVariables false
namespace Go.Abs
open Go

variable {C : Cfg} {P : Program} {cl : Caller} {base n c : Nat} {all : List Oper} {bs : List Nat}
variable {S : Nat → DS} {vs : Nat → AVal}

def Eff (C : Cfg) (all : List Oper) (S : Nat → DS) (k : Nat) : Prop := ∃ o, all[k]? = some o ∧ wantedA all (S k).env o = true ∧ clsOf C.P o.op = .eff
def Al (C : Cfg) (cl : Caller) (base c : Nat) (all : List Oper) (S : Nat → DS) (k : Nat) (b : Blk) : Prop :=
  ∃ o v G', all[k]? = some o ∧ wantedA all (S k).env o = true ∧ clsOf C.P o.op = .al ∧ opA C cl base (some (c + k)) (S k).env (S k).G o.op = some (v, G') ∧ hget G' (c + k) = some b

theorem Al.uniq {k : Nat} {b b' : Blk} (h : Al C cl base c all S k b) (h' : Al C cl base c all S k b') : b = b' := by
  obtain ⟨o, v, G, h1, _, _, h4, h5⟩ := h
  obtain ⟨o', v', G', h1', _, _, h4', h5'⟩ := h'
  rw [h1] at h1'; simp at h1'; subst h1'
  rw [h4] at h4'; simp at h4'
  obtain ⟨rfl, rfl⟩ := h4'
  rw [h5] at h5'; simpa using h5'

/-- the run in the text's order -/
structure TRun (C : Cfg) (cl : Caller) (base n c : Nat) (all : List Oper) (bs : List Nat) (S : Nat → DS) (vs : Nat → AVal) : Prop where
  frame : CallFrame cl
  kept : CallKept cl
  touch : CallTouch C cl
  ord : orderly all bs = true
  run : ∀ k o, all[k]? = some o → DFact C cl base n c all bs k o (S k) (vs k) (S (k + 1))
  fl0 : (S 0).fl = []
  len0 : c + all.length ≤ (S 0).G.length
  free0 : ∀ j, j < all.length → hget (S 0).G (c + j) = none

/-- no effect before k (as the text goes) takes j's row in -/
def Loose (C : Cfg) (all : List Oper) (bs : List Nat) (S : Nat → DS) (k j : Nat) : Prop := ∀ e, e < k → Eff C all S e → waitsB bs e j = false

structure TInv (C : Cfg) (cl : Caller) (base n c : Nat) (all : List Oper) (bs : List Nat) (S : Nat → DS) (vs : Nat → AVal) (k : Nat) : Prop where
  env : EnvAt all vs (S 0).env (fun j => j < k) (S k).env
  rs : ∀ j o, j < k → all[j]? = some o → wantedA all (S j).env o = true → clsOf C.P o.op = .rd → (j, rdLocs (S j).env o.op) ∈ (S k).rs
  es : ∀ j o, j < k → all[j]? = some o → wantedA all (S j).env o = true → clsOf C.P o.op = .eff → (j, touchOf C (S j).env (c + j) o.op, (S j).G.length) ∈ (S k).es
  fl : ∀ j b, (j, b) ∈ (S k).fl ↔ j < k ∧ Al C cl base c all S j b ∧ Loose C all bs S k j
  len : c + all.length ≤ (S k).G.length
  slot : ∀ j, j < all.length → hget (S k).G (c + j) ≠ none → ∃ e, e < k ∧ Eff C all S e ∧ (e = j ∨ waitsB bs e j = true)

theorem Loose.succ_not {k j : Nat} (h : ¬ Eff C all S k) : Loose C all bs S (k + 1) j ↔ Loose C all bs S k j := by
  constructor
  · exact fun hl e he hE => hl e (by omega) hE
  · intro hl e he hE
    rcases Nat.lt_or_ge e k with h1 | h1
    · exact hl e h1 hE
    · obtain rfl : e = k := by omega
      exact absurd hE h

theorem Loose.succ_eff {k j : Nat} (h : Eff C all S k) : Loose C all bs S (k + 1) j ↔ Loose C all bs S k j ∧ waitsB bs k j = false := by
  constructor
  · exact fun hl => ⟨fun e he hE => hl e (by omega) hE, hl k (by omega) h⟩
  · intro ⟨hl, hk⟩ e he hE
    rcases Nat.lt_or_ge e k with h1 | h1
    · exact hl e h1 hE
    · obtain rfl : e = k := by omega
      exact hk

theorem mergeF_get {p : Nat → Bool} : ∀ {fl : List (Nat × Blk)} {G : Heap}, (∀ j b, (j, b) ∈ fl → c + j < G.length) → (∀ j b b', (j, b) ∈ fl → (j, b') ∈ fl → b = b') → ∀ l,
    (∃ j b, (j, b) ∈ fl ∧ p j = true ∧ l = c + j ∧ hget (mergeF c p fl G) l = some b) ∨ ((∀ j b, (j, b) ∈ fl → p j = true → l ≠ c + j) ∧ hget (mergeF c p fl G) l = hget G l)
  | [], G, hl, hu, l => .inr ⟨fun j b h => by simp at h, rfl⟩
  | (j, b) :: fl, G, hl, hu, l => by
    simp only [mergeF]
    by_cases hp : p j = true
    · rw [if_pos hp]
      rcases mergeF_get (p := p) (fl := fl) (G := G.set (c + j) (some b)) (fun j b h => by simpa using hl j b (by simp [h])) (fun j b b' h h' => hu j b b' (by simp [h]) (by simp [h'])) l with
        ⟨j', b', h1, h2, h3, h4⟩ | ⟨h1, h2⟩
      · exact .inl ⟨j', b', by simp [h1], h2, h3, h4⟩
      · rw [h2, hget_set _ _ _ _ (hl j b (by simp))]
        by_cases hlj : l = c + j
        · rw [if_pos hlj]; exact .inl ⟨j, b, by simp, hp, hlj, rfl⟩
        · rw [if_neg hlj]
          refine .inr ⟨fun j' b' h hp' => ?_, rfl⟩
          simp at h
          rcases h with ⟨rfl, rfl⟩ | h
          · exact hlj
          · exact h1 j' b' h hp'
    · rw [if_neg hp]
      rcases mergeF_get (p := p) (fl := fl) (G := G) (fun j b h => hl j b (by simp [h])) (fun j b b' h h' => hu j b b' (by simp [h]) (by simp [h'])) l with
        ⟨j', b', h1, h2, h3, h4⟩ | ⟨h1, h2⟩
      · exact .inl ⟨j', b', by simp [h1], h2, h3, h4⟩
      · refine .inr ⟨fun j' b' h hp' => ?_, h2⟩
        simp at h
        rcases h with ⟨rfl, rfl⟩ | h
        · exact absurd hp' hp
        · exact h1 j' b' h hp'

theorem lt_of_get {k : Nat} {o : Oper} (h : all[k]? = some o) : k < all.length := by
  rcases Nat.lt_or_ge k all.length with h' | h'
  · exact h'
  · simp [List.getElem?_eq_none h'] at h

theorem TInv.flLen {k : Nat} (h : TInv C cl base n c all bs S vs k) (j : Nat) (b : Blk) (hj : (j, b) ∈ (S k).fl) : c + j < (S k).G.length := by
  obtain ⟨_, ⟨o, _, _, ho, _⟩, _⟩ := (h.fl j b).1 hj
  have := lt_of_get ho
  have := h.len
  omega
theorem TInv.flUniq {k : Nat} (h : TInv C cl base n c all bs S vs k) (j : Nat) (b b' : Blk) (hj : (j, b) ∈ (S k).fl) (hj' : (j, b') ∈ (S k).fl) : b = b' :=
  ((h.fl j b).1 hj).2.1.uniq ((h.fl j b').1 hj').2.1

/-- an operation turns no free row but its own place -/
theorem opA_free (hF : CallFrame cl) {s : Nat} {env : List AVal} {G G' : Heap} {op : Op} {v : AVal} (e : opA C cl base (some s) env G op = some (v, G')) {l : Nat} (hl : l < G.length) (hls : l ≠ s) (hg : hget G l = none) : hget G' l = none := by
  -- with a row of another's at that place, it does the same
  let b : Blk := ⟨[], 0, false⟩
  have r : Beside (fun k => if k = l then some b else none) G (G.set l (some b)) := by
    refine ⟨by simp, fun k => ?_, fun k x hk => ?_⟩
    · rw [hget_set _ _ _ _ hl]
      by_cases hkl : k = l
      · subst hkl; rw [if_pos rfl, hg]; simp
      · rw [if_neg hkl, if_neg hkl]; cases hget G k <;> rfl
    · split at hk
      · rename_i h; subst h; exact ⟨hl, hg⟩
      · cases hk
  obtain ⟨X', _, h2⟩ := opA_frame hF r (fun k hk => by simp at hk; subst hk; simp [Ne.symm hls]) e
  exact (h2.lt l b (by simp)).2

theorem mergeF_len' {p : Nat → Bool} {fl : List (Nat × Blk)} {G : Heap} : (mergeF c p fl G).length = G.length := mergeF_length

theorem TRun.inv (R : TRun C cl base n c all bs S vs) (hcb : base ≤ c) : ∀ k, k ≤ all.length → TInv C cl base n c all bs S vs k
  | 0, _ => ⟨fun t => .inr ⟨fun j _ h => by omega, rfl⟩, fun j _ h => by omega, fun j _ h => by omega, fun j b => by rw [R.fl0]; simp, R.len0, fun j hj hne => absurd (R.free0 j hj) hne⟩
  | k + 1, hk => by
    have I := R.inv hcb k (by omega)
    obtain ⟨o, ho⟩ : ∃ o, all[k]? = some o := ⟨all[k], List.getElem?_eq_getElem (by omega)⟩
    have f := R.run k o ho
    -- the places
    have henv : ∀ {env'}, putA n (S k).env o.dst (vs k) = some env' → EnvAt all vs (S 0).env (fun j => j < k + 1) env' := fun {env'} hp =>
      (I.env.put ho hp (fun t _ j o' hj _ _ => hj)).iff fun j => by constructor <;> intro h <;> omega
    have hnot : ∀ (Z : Cls), clsOf C.P o.op = Z → Z ≠ .eff → ¬ Eff C all S k := fun Z hz hne ⟨o', h1, h2, h3⟩ => by
      rw [ho] at h1; simp at h1; subst h1; rw [hz] at h3; exact hne h3
    have hnoal : ∀ (Z : Cls), clsOf C.P o.op = Z → Z ≠ .al → ∀ b, ¬ Al C cl base c all S k b := fun Z hz hne b ⟨o', _, _, h1, h2, h3, _⟩ => by
      rw [ho] at h1; simp at h1; subst h1; rw [hz] at h3; exact hne h3
    have hrs : ∀ {rs' : List (Nat × List Nat)}, (∀ x, x ∈ (S k).rs → x ∈ rs') → (wantedA all (S k).env o = true → clsOf C.P o.op = .rd → (k, rdLocs (S k).env o.op) ∈ rs') →
        ∀ j o', j < k + 1 → all[j]? = some o' → wantedA all (S j).env o' = true → clsOf C.P o'.op = .rd → (j, rdLocs (S j).env o'.op) ∈ rs' := fun {rs'} h1 h2 j o' hj ho' hw hc => by
      rcases Nat.lt_or_ge j k with h | h
      · exact h1 _ (I.rs j o' h ho' hw hc)
      · obtain rfl : j = k := by omega
        rw [ho] at ho'; simp at ho'; subst ho'
        exact h2 hw hc
    have hes : ∀ {es' : List (Nat × Option (List Nat) × Nat)}, (∀ x, x ∈ (S k).es → x ∈ es') → (wantedA all (S k).env o = true → clsOf C.P o.op = .eff → (k, touchOf C (S k).env (c + k) o.op, (S k).G.length) ∈ es') →
        ∀ j o', j < k + 1 → all[j]? = some o' → wantedA all (S j).env o' = true → clsOf C.P o'.op = .eff → (j, touchOf C (S j).env (c + j) o'.op, (S j).G.length) ∈ es' := fun {es'} h1 h2 j o' hj ho' hw hc => by
      rcases Nat.lt_or_ge j k with h | h
      · exact h1 _ (I.es j o' h ho' hw hc)
      · obtain rfl : j = k := by omega
        rw [ho] at ho'; simp at ho'; subst ho'
        exact h2 hw hc
    have hflsame : (¬ Eff C all S k) → (∀ b, ¬ Al C cl base c all S k b) → ∀ j b, (j, b) ∈ (S k).fl ↔ j < k + 1 ∧ Al C cl base c all S j b ∧ Loose C all bs S (k + 1) j := fun hne hna j b => by
      rw [I.fl, Loose.succ_not hne]
      constructor
      · rintro ⟨h1, h2, h3⟩; exact ⟨by omega, h2, h3⟩
      · rintro ⟨h1, h2, h3⟩
        refine ⟨?_, h2, h3⟩
        rcases Nat.lt_or_ge j k with h | h
        · exact h
        · obtain rfl : j = k := by omega
          exact absurd h2 (hna b)
    have hslot : ∀ j, j < all.length → hget (S k).G (c + j) ≠ none → ∃ e, e < k + 1 ∧ Eff C all S e ∧ (e = j ∨ waitsB bs e j = true) := fun j hj h => by
      obtain ⟨e, h1, h2, h3⟩ := I.slot j hj h
      exact ⟨e, by omega, h2, h3⟩
    generalize hs' : S (k + 1) = s' at f
    generalize hvk : vs k = vk at f
    cases f with
    | off hw hp =>
      have hne : ¬ Eff C all S k := fun ⟨o', h1, h2, _⟩ => by rw [ho] at h1; simp at h1; subst h1; rw [hw] at h2; cases h2
      have hna : ∀ b, ¬ Al C cl base c all S k b := fun b ⟨o', _, _, h1, h2, _⟩ => by rw [ho] at h1; simp at h1; subst h1; rw [hw] at h2; cases h2
      constructor <;> rw [hs']
      · exact henv (hvk ▸ hp)
      · exact hrs (fun _ h => h) (fun h => by rw [hw] at h; cases h)
      · exact hes (fun _ h => h) (fun h => by rw [hw] at h; cases h)
      · exact hflsame hne hna
      · exact I.len
      · exact hslot
    | pure hw hc he hp =>
      constructor <;> rw [hs']
      · exact henv (hvk ▸ hp)
      · exact hrs (fun _ h => h) (fun _ h => by rw [hc] at h; cases h)
      · exact hes (fun _ h => h) (fun _ h => by rw [hc] at h; cases h)
      · exact hflsame (hnot _ hc (by simp)) (hnoal _ hc (by simp))
      · exact I.len
      · exact hslot
    | rd hw hc hr he hp =>
      constructor <;> rw [hs']
      · exact henv (hvk ▸ hp)
      · exact hrs (fun _ h => by simp [h]) (fun _ _ => by simp)
      · exact hes (fun _ h => h) (fun _ h => by rw [hc] at h; cases h)
      · exact hflsame (hnot _ hc (by simp)) (hnoal _ hc (by simp))
      · exact I.len
      · exact hslot
    | @al _ _ _ b0 hw hc he hb hp =>
      have hal : Al C cl base c all S k b0 := ⟨o, _, _, ho, hw, hc, he, hb⟩
      have hne := hnot _ hc (by simp)
      constructor <;> rw [hs']
      · exact henv (hvk ▸ hp)
      · exact hrs (fun _ h => h) (fun _ h => by rw [hc] at h; cases h)
      · exact hes (fun _ h => h) (fun _ h => by rw [hc] at h; cases h)
      · intro j b
        simp only [List.mem_cons, Prod.mk.injEq, Loose.succ_not hne, I.fl]
        constructor
        · rintro (⟨rfl, rfl⟩ | ⟨h1, h2, h3⟩)
          · refine ⟨by omega, hal, fun e he' _ => ?_⟩
            cases hw' : waitsB bs e j with
            | false => rfl
            | true => have := orderly_back R.ord hw'; omega
          · exact ⟨by omega, h2, h3⟩
        · rintro ⟨h1, h2, h3⟩
          rcases Nat.lt_or_ge j k with h | h
          · exact .inr ⟨h, h2, h3⟩
          · obtain rfl : j = k := by omega
            exact .inl ⟨rfl, h2.uniq hal⟩
      · exact I.len
      · exact hslot
    | @eff _ _ G' hw hc hr he hp =>
      have hE : Eff C all S k := ⟨o, ho, hw, hc⟩
      have hkeep := opA_kept (C := C) (cl := cl) R.kept (base := base) (slot := some (c + k)) (by rw [mergeF_length]; have := I.len; omega) he
      have hlen : (S k).G.length ≤ G'.length := by have := hkeep.len; rwa [mergeF_length] at this
      constructor <;> rw [hs']
      · exact henv (hvk ▸ hp)
      · exact hrs (fun _ h => h) (fun _ h => by rw [hc] at h; cases h)
      · exact hes (fun _ h => by simp [h]) (fun _ _ => by simp [mergeF_length])
      · intro j b
        simp only [List.mem_filter, Bool.not_eq_true', Loose.succ_eff hE, I.fl]
        constructor
        · rintro ⟨⟨h1, h2, h3⟩, h4⟩; exact ⟨by omega, h2, h3, h4⟩
        · rintro ⟨h1, h2, h3, h4⟩
          refine ⟨⟨?_, h2, h3⟩, h4⟩
          rcases Nat.lt_or_ge j k with h | h
          · exact h
          · obtain rfl : j = k := by omega
            exact absurd h2 (hnoal _ hc (by simp) b)
      · simp only; have := I.len; omega
      · intro j hj hne
        by_cases hjk : j = k
        · exact ⟨k, by omega, hE, .inl hjk.symm⟩
        · by_cases hm : hget (mergeF c (waitsB bs k) (S k).fl (S k).G) (c + j) = none
          · exact absurd (opA_free R.frame he (by rw [mergeF_length]; have := I.len; omega) (by omega) hm) hne
          · rcases mergeF_get (c := c) (p := waitsB bs k) I.flLen I.flUniq (c + j) with ⟨j', b', h1, h2, h3, h4⟩ | ⟨h1, h2⟩
            · obtain rfl : j = j' := by omega
              exact ⟨k, by omega, hE, .inr h2⟩
            · rw [h2] at hm; exact hslot j hj hm
end Go.Abs
end
