/-
  The machine of values looks at no row that it does not name: with more rows beside, it does the same.
-/
import Derived.Test.YtcdjkpppfghkpaaAbsStep
set_option linter.unusedSimpArgs false
set_option linter.unusedVariables false
namespace Go.Abs
open Go

/-- X is G and, where G has nothing, F's rows -/
structure Beside (F : Nat → Option Blk) (G X : Heap) : Prop where
  len : X.length = G.length
  at_ : ∀ l, hget X l = match hget G l with | some b => some b | none => F l
  lt : ∀ l b, F l = some b → l < G.length ∧ hget G l = none

variable {C : Cfg} {P : Program} {F : Nat → Option Blk} {G G' X : Heap} {base : Nat} {slot : Option Nat}

theorem Beside.get (r : Beside F G X) {l : Nat} {b : Blk} (e : hget G l = some b) : hget X l = some b := by rw [r.at_, e]

theorem Beside.set (r : Beside F G X) {l : Nat} {b : Blk} (e : hget G l = some b) (c : Option Blk) : Beside F (G.set l c) (X.set l c) := by
  have hl := hget_lt e
  have hlX : l < X.length := by rw [r.len]; exact hl
  have hF : F l = none := by
    cases hf : F l with
    | none => rfl
    | some x => have := (r.lt l x hf).2; rw [e] at this; cases this
  refine ⟨by simp [r.len], fun k => ?_, fun k x hx => ?_⟩
  · rw [hget_set _ _ _ _ hl, hget_set _ _ _ _ hlX]
    by_cases hk : k = l
    · subst hk
      rw [if_pos rfl, if_pos rfl]
      cases c <;> simp [hF]
    · rw [if_neg hk, if_neg hk, r.at_]
  · have := r.lt k x hx
    refine ⟨by simpa using this.1, ?_⟩
    rw [hget_set _ _ _ _ hl, if_neg (fun hk => by subst hk; rw [hF] at hx; cases hx)]
    exact this.2

theorem Beside.push (r : Beside F G X) (b : Option Blk) : Beside F (G ++ [b]) (X ++ [b]) := by
  refine ⟨by simp [r.len], fun k => ?_, fun k x hx => ?_⟩
  · rw [hget_append, hget_append, r.len]
    split
    · rename_i hk; subst hk
      cases b with
      | some b => rfl
      | none =>
        cases hf : F G.length with
        | none => rfl
        | some x => have := (r.lt _ x hf).1; omega
    · exact r.at_ k
  · have := r.lt k x hx
    refine ⟨by simp; omega, ?_⟩
    rw [hget_append, if_neg (by omega)]
    exact this.2

theorem write_frame (r : Beside F G X) {l o : Nat} {vs : List AVal} (e : write G base l o vs = some G') : ∃ X', write X base l o vs = some X' ∧ Beside F G' X' := by
  unfold write at e ⊢
  split at e
  case h_2 => cases e
  rename_i b hb
  split at e
  case isFalse => cases e
  rename_i hc
  simp at e; subst e
  rw [r.get hb]
  simp only
  rw [if_pos hc]
  exact ⟨_, rfl, r.set hb _⟩

theorem halloc_frame (r : Beside F G X) {blk : Blk} {l : Nat} (hs : ∀ s, slot = some s → F s = none) (e : halloc G slot blk = some (l, G')) : ∃ X', halloc X slot blk = some (l, X') ∧ Beside F G' X' := by
  unfold halloc at e ⊢
  split at e
  case isFalse => cases e
  rename_i h1
  rw [if_pos h1]
  cases slot with
  | none =>
    simp at e; obtain ⟨rfl, rfl⟩ := e
    exact ⟨X ++ [some blk], by simp [r.len], r.push _⟩
  | some s =>
    simp only at e ⊢
    split at e
    case h_2 => cases e
    rename_i hg
    simp at e; obtain ⟨rfl, rfl⟩ := e
    have hlt : s < G.length := by
      rcases Nat.lt_or_ge s G.length with h' | h'
      · exact h'
      · simp [List.getElem?_eq_none h'] at hg
    have hltX : s < X.length := by rw [r.len]; exact hlt
    have hF := hs s rfl
    have hGs : hget G s = none := by rw [hget_eq, hg]; rfl
    have hXs : X[s]? = some none := by
      have h2 : hget X s = none := by rw [r.at_, hGs]; exact hF
      rw [hget_eq] at h2
      rw [List.getElem?_eq_getElem hltX] at h2 ⊢
      simpa using h2
    rw [hXs]
    refine ⟨_, rfl, by simp [r.len], fun k => ?_, fun k x hx => ?_⟩
    · rw [hget_set _ _ _ _ hlt, hget_set _ _ _ _ hltX]
      split
      · rfl
      · exact r.at_ k
    · have := r.lt k x hx
      refine ⟨by simpa using this.1, ?_⟩
      rw [hget_set _ _ _ _ hlt, if_neg (fun hk => by subst hk; rw [hF] at hx; cases hx)]
      exact this.2

theorem loadA_frame (r : Beside F G X) {t : TypeId} {a v : AVal} (e : loadA P G t a = some v) : loadA P X t a = some v := by
  unfold loadA at e ⊢
  split at e
  · split at e
    · rename_i b hb
      simp only [r.get hb]; exact e
    · cases e
  · exact e
  · cases e

theorem srcCells_frame (r : Beside F G X) {size n : Nat} {a : AVal} {cs : List AVal} (e : srcCells G size n a = some cs) : srcCells X size n a = some cs := by
  unfold srcCells at e ⊢
  split at e
  · split at e
    · rename_i b hb
      simp only [r.get hb]; exact e
    · cases e
  · exact e
  · exact e
  · cases e

theorem storeA_frame (r : Beside F G X) {t : TypeId} {a v : AVal} (e : storeA P G base t a v = some G') : ∃ X', storeA P X base t a v = some X' ∧ Beside F G' X' := by
  unfold storeA at e ⊢
  split at e
  case h_2 => cases e
  split at e
  case isFalse => cases e
  rename_i hs
  rw [if_pos hs]
  exact write_frame r e

theorem buildSliceA_frame (r : Beside F G X) (hs : ∀ s, slot = some s → F s = none) {t : TypeId} {n : Nat} {ps : List (Nat × AVal)} {v : AVal} (e : buildSliceA P G slot t n ps = some (v, G')) :
    ∃ X', buildSliceA P X slot t n ps = some (v, X') ∧ Beside F G' X' := by
  simp only [buildSliceA, Option.bind_eq_bind, Option.bind_eq_some_iff] at e ⊢
  obtain ⟨el, he, s, hs', _, hg, z, hz, _, hg2, cells, hf, ⟨l, h1⟩, ha, e⟩ := e
  obtain ⟨X', k1, k2⟩ := halloc_frame r hs ha
  simp at e; obtain ⟨rfl, rfl⟩ := e
  exact ⟨X', ⟨el, he, s, hs', _, hg, z, hz, _, hg2, cells, hf, (l, X'), k1, rfl⟩, k2⟩

theorem makeSliceA_frame (r : Beside F G X) (hs : ∀ s, slot = some s → F s = none) {t : TypeId} {n c : AVal} {v : AVal} (e : makeSliceA P G slot t n c = some (v, G')) :
    ∃ X', makeSliceA P X slot t n c = some (v, X') ∧ Beside F G' X' := by
  simp only [makeSliceA, Option.bind_eq_bind, Option.bind_eq_some_iff] at e ⊢
  obtain ⟨el, he, s, hs', by_, hb, z, hz, _, hg2, e⟩ := e
  split at e
  case h_2 => cases e
  split at e
  case isFalse => cases e
  rename_i hc
  simp only [Option.bind_eq_bind, Option.bind_eq_some_iff] at e
  obtain ⟨⟨l, h1⟩, ha, e⟩ := e
  obtain ⟨X', k1, k2⟩ := halloc_frame r hs ha
  simp at e; obtain ⟨rfl, rfl⟩ := e
  refine ⟨X', ⟨el, he, s, hs', by_, hb, z, hz, _, hg2, ?_⟩, k2⟩
  rw [if_pos hc, k1]
  rfl

theorem convA_frame (r : Beside F G X) (hs : ∀ s, slot = some s → F s = none) {s d : TypeId} {a v : AVal} (e : convA P G slot s d a = some (v, G')) : ∃ X', convA P X slot s d a = some (v, X') ∧ Beside F G' X' := by
  unfold convA at e
  split at e
  · rename_i h1 h2
    simp at e; obtain ⟨rfl, rfl⟩ := e
    exact ⟨X, by simp [convA, h1, h2], r⟩
  · rename_i h1 h2
    simp at e; obtain ⟨rfl, rfl⟩ := e
    exact ⟨X, by simp [convA, h1, h2], r⟩
  · rename_i h1 h2
    split at e
    case isFalse => cases e
    rename_i hu
    simp only [Option.bind_eq_bind, Option.bind_eq_some_iff] at e
    obtain ⟨⟨l, h3⟩, ha, e⟩ := e
    obtain ⟨X', k1, k2⟩ := halloc_frame r hs ha
    simp at e; obtain ⟨rfl, rfl⟩ := e
    exact ⟨X', by simp [convA, h1, h2, hu, k1], k2⟩
  · rename_i a0 _ _ _ el h1 h2 hno
    split at e
    case isFalse => cases e
    rename_i hu
    simp only [Option.bind_eq_bind, Option.bind_eq_some_iff] at e
    obtain ⟨n, hn, _, hg, cs, hcs, bs, hbs, e⟩ := e
    simp at e; obtain ⟨rfl, rfl⟩ := e
    have := srcCells_frame r hcs
    refine ⟨X, ?_, r⟩
    cases a0 with
    | str s => exact (hno s rfl).elim
    | own _ _ _ _ => simp [convA, h1, h2, hu, hn, this, hbs, gd]
    | lst _ _ => simp [convA, h1, h2, hu, hn, this, hbs, gd]
    | _ => simp [lenA] at hn
  · cases e

theorem appendA_frame (r : Beside F G X) (hs : ∀ s, slot = some s → F s = none) {el : TypeId} {s v : AVal} {n : Nat} {new : List AVal} (e : appendA P G base slot el s n new = some (v, G')) :
    ∃ X', appendA P X base slot el s n new = some (v, X') ∧ Beside F G' X' := by
  simp only [appendA, Option.bind_eq_bind, Option.bind_eq_some_iff] at e
  obtain ⟨size, h1, by_, h2, u1, h3, u2, h4, e⟩ := e
  cases s with
  | own l off len cap =>
    simp only [appendA, h1, h2, h3, h4, Option.bind_eq_bind, Option.bind_some]
    simp only at e
    split at e
    · rename_i h0
      simp at e; obtain ⟨rfl, rfl⟩ := e
      exact ⟨X, if_pos h0, r⟩
    rename_i h0
    rw [if_neg h0]
    split at e
    · cases e
    rename_i b hb
    rw [r.get hb]
    simp only
    split at e
    · rename_i c
      split at e
      · rename_i hle
        rw [if_pos hle]
        split at e
        · cases e
        rename_i hsz
        rw [if_neg hsz]
        simp only [Option.bind_eq_bind, Option.bind_eq_some_iff] at e ⊢
        obtain ⟨h', hw, e⟩ := e
        simp at e; obtain ⟨rfl, rfl⟩ := e
        obtain ⟨X', k1, k2⟩ := write_frame r hw
        exact ⟨X', ⟨X', k1, rfl⟩, k2⟩
      · rename_i hle
        rw [if_neg hle]
        split at e
        case isFalse => cases e
        rename_i hc
        rw [if_pos hc]
        simp only [Option.bind_eq_bind, Option.bind_eq_some_iff] at e ⊢
        obtain ⟨⟨l', h'⟩, hw, e⟩ := e
        simp at e; obtain ⟨rfl, rfl⟩ := e
        obtain ⟨X', k1, k2⟩ := halloc_frame r hs hw
        exact ⟨X', ⟨(l', X'), k1, rfl⟩, k2⟩
    · split at e
      case isFalse => cases e
      rename_i hc
      rw [if_pos hc]
      simp only [Option.bind_eq_bind, Option.bind_eq_some_iff] at e ⊢
      obtain ⟨⟨l', h'⟩, hw, e⟩ := e
      simp at e; obtain ⟨rfl, rfl⟩ := e
      obtain ⟨X', k1, k2⟩ := halloc_frame (r.set hb none) hs hw
      exact ⟨X', ⟨(l', X'), k1, rfl⟩, k2⟩
  | lst isNil xs =>
    simp only [appendA, h1, h2, h3, h4, Option.bind_eq_bind, Option.bind_some]
    simp only at e
    split at e
    · rename_i h0
      simp at e; obtain ⟨rfl, rfl⟩ := e
      exact ⟨X, if_pos h0, r⟩
    rename_i h0
    rw [if_neg h0]
    split at e
    case isFalse => cases e
    rename_i hc
    rw [if_pos hc]
    simp only [Option.bind_eq_bind, Option.bind_eq_some_iff] at e ⊢
    obtain ⟨⟨l', h'⟩, hw, e⟩ := e
    simp at e; obtain ⟨rfl, rfl⟩ := e
    obtain ⟨X', k1, k2⟩ := halloc_frame r hs hw
    exact ⟨X', ⟨(l', X'), k1, rfl⟩, k2⟩
  | _ => simp at e

theorem builtinA_frame (r : Beside F G X) (hs : ∀ s, slot = some s → F s = none) {b : Builtin} {ts : List TypeId} {args : List AVal} {v : AVal} (e : builtinA P G base slot b ts args = some (v, G')) :
    ∃ X', builtinA P X base slot b ts args = some (v, X') ∧ Beside F G' X' := by
  unfold builtinA at e
  split at e
  · rename_i t _ x _
    split at e
    · rename_i hu; simp at e; obtain ⟨rfl, rfl⟩ := e; exact ⟨X, by simp [builtinA, hu], r⟩
    · rename_i hu; simp at e; obtain ⟨rfl, rfl⟩ := e; exact ⟨X, by simp [builtinA, hu], r⟩
    · rename_i hu; simp at e; obtain ⟨rfl, rfl⟩ := e; exact ⟨X, by simp [builtinA, hu], r⟩
    · rename_i hu; simp at e; obtain ⟨rfl, rfl⟩ := e; exact ⟨X, by simp [builtinA, hu], r⟩
    · rename_i hu
      split at e
      case h_2 => cases e
      rename_i hu2
      simp at e; obtain ⟨rfl, rfl⟩ := e; exact ⟨X, by simp [builtinA, hu, hu2], r⟩
    · cases e
  · rename_i t _ x _
    split at e
    · rename_i hu; simp at e; obtain ⟨rfl, rfl⟩ := e; exact ⟨X, by simp [builtinA, hu], r⟩
    · rename_i hu; simp at e; obtain ⟨rfl, rfl⟩ := e; exact ⟨X, by simp [builtinA, hu], r⟩
    · cases e
  · simp only [Option.bind_eq_bind, Option.bind_eq_some_iff] at e
    obtain ⟨el, h1, size, h2, z, h3, u, h4, isInt, h5, e⟩ := e
    split at e
    · rename_i hi
      split at e
      case h_2 => cases e
      simp only [Option.bind_eq_bind, Option.bind_eq_some_iff] at e
      obtain ⟨by_, h6, e⟩ := e
      split at e
      case isFalse => cases e
      rename_i hc
      obtain ⟨X', k1, k2⟩ := appendA_frame r hs e
      exact ⟨X', by simp only [builtinA, h1, h2, h3, h4, h5, Option.bind_eq_bind, Option.bind_some, if_pos hi, h6, if_pos hc, k1], k2⟩
    · rename_i hi
      simp only [Option.bind_eq_bind, Option.bind_eq_some_iff] at e
      obtain ⟨n, h6, new, h7, e⟩ := e
      obtain ⟨X', k1, k2⟩ := appendA_frame r hs e
      exact ⟨X', by simp only [builtinA, h1, h2, h3, h4, h5, Option.bind_eq_bind, Option.bind_some, if_neg hi, h6, srcCells_frame r h7, k1], k2⟩
  · rename_i t _ d s _
    simp only [Option.bind_eq_bind, Option.bind_eq_some_iff] at e
    obtain ⟨el, h1, size, h2, n, h3, k, h4, new, h5, e⟩ := e
    cases d with
    | own l off len cap =>
      simp only [Option.bind_eq_bind, Option.bind_eq_some_iff] at e
      obtain ⟨h', hw, e⟩ := e
      simp at e; obtain ⟨rfl, rfl⟩ := e
      obtain ⟨X', k1, k2⟩ := write_frame r hw
      exact ⟨X', by simp only [builtinA, h1, h2, h3, h4, srcCells_frame r h5, Option.bind_eq_bind, Option.bind_some, k1], k2⟩
    | lst isNil xs =>
      have e : (if min n k = 0 then some (AVal.int .i64 ((min n k : Nat) : Int), G) else none) = some (v, G') := e
      split at e
      case isFalse => cases e
      rename_i hk
      simp at e; obtain ⟨rfl, rfl⟩ := e
      exact ⟨X, by simp only [builtinA, h1, h2, h3, h4, srcCells_frame r h5, Option.bind_eq_bind, Option.bind_some, if_pos hk], r⟩
    | _ => simp [dstLen] at h4
  · simp only [Option.bind_eq_bind, Option.bind_eq_some_iff] at e
    obtain ⟨el, h1, z, h2, size, h3, u, h4, e⟩ := e
    split at e
    · split at e
      case isFalse => cases e
      rename_i hc
      simp at e; obtain ⟨rfl, rfl⟩ := e
      exact ⟨X, by simp only [builtinA, h1, h2, h3, h4, Option.bind_eq_bind, Option.bind_some, if_pos hc], r⟩
    · split at e
      · rename_i hc
        simp at e; obtain ⟨rfl, rfl⟩ := e
        exact ⟨X, by simp only [builtinA, h1, h2, h3, h4, Option.bind_eq_bind, Option.bind_some, if_pos hc], r⟩
      · rename_i hc
        simp only [Option.bind_eq_bind, Option.bind_eq_some_iff] at e
        obtain ⟨h', hw, e⟩ := e
        simp at e; obtain ⟨rfl, rfl⟩ := e
        obtain ⟨X', k1, k2⟩ := write_frame r hw
        exact ⟨X', by simp only [builtinA, h1, h2, h3, h4, Option.bind_eq_bind, Option.bind_some, if_neg hc, k1], k2⟩
    · cases e
  · simp only [Option.map_eq_some_iff] at e
    obtain ⟨y, hy, e⟩ := e
    simp at e; obtain ⟨rfl, rfl⟩ := e
    exact ⟨X, by simp only [builtinA, hy, Option.map_some], r⟩
  · simp only [Option.map_eq_some_iff] at e
    obtain ⟨y, hy, e⟩ := e
    simp at e; obtain ⟨rfl, rfl⟩ := e
    exact ⟨X, by simp only [builtinA, hy, Option.map_some], r⟩
  · cases e

/-- a way to call that looks at no row that it does not name -/
def CallFrame (cl : Caller) : Prop := ∀ base f args G v G', cl base f args G = some (v, G') → ∀ F X, Beside F G X → ∃ X', cl base f args X = some (v, X') ∧ Beside F G' X'

theorem opA_frame {cl : Caller} (hcl : CallFrame cl) (r : Beside F G X) (hs : ∀ s, slot = some s → F s = none) {env : List AVal} {op : Op} {v : AVal} (e : opA C cl base slot env G op = some (v, G')) :
    ∃ X', opA C cl base slot env X op = some (v, X') ∧ Beside F G' X' := by
  have same : ∀ {y : AVal}, (y, G) = (v, G') → ((y, X) = (v, X) ∧ Beside F G' X) := fun {y} h => by
    simp at h; obtain ⟨rfl, rfl⟩ := h; exact ⟨rfl, r⟩
  unfold opA at e
  split at e
  · simp only [Option.map_eq_some_iff] at e
    obtain ⟨y, h1, e⟩ := e
    obtain ⟨k1, k2⟩ := same e
    exact ⟨X, by simp only [opA, h1, Option.map_some, k1], k2⟩
  · simp only [Option.map_eq_some_iff] at e
    obtain ⟨y, h1, e⟩ := e
    obtain ⟨k1, k2⟩ := same e
    exact ⟨X, by simp only [opA, h1, Option.map_some, k1], k2⟩
  · split at e
    · rename_i hc
      simp only [Option.map_eq_some_iff] at e
      obtain ⟨y, h1, e⟩ := e
      obtain ⟨k1, k2⟩ := same e
      exact ⟨X, by simp only [opA, hc, h1, Option.map_some, k1], k2⟩
    · rename_i hc
      simp only [Option.map_eq_some_iff] at e
      obtain ⟨y, h1, e⟩ := e
      obtain ⟨k1, k2⟩ := same e
      exact ⟨X, by simp only [opA, hc, h1, Option.map_some, k1], k2⟩
    · cases e
  · simp only [Option.bind_eq_bind, Option.bind_eq_some_iff] at e
    obtain ⟨z, h1, ⟨l, h'⟩, hal, e⟩ := e
    simp at e; obtain ⟨rfl, rfl⟩ := e
    obtain ⟨X', k1, k2⟩ := halloc_frame r hs hal
    exact ⟨X', by simp only [opA, h1, Option.bind_eq_bind, Option.bind_some, k1], k2⟩
  · simp only [Option.bind_eq_bind, Option.bind_eq_some_iff] at e
    obtain ⟨z, h1, ⟨l, h'⟩, hal, e⟩ := e
    simp at e; obtain ⟨rfl, rfl⟩ := e
    obtain ⟨X', k1, k2⟩ := halloc_frame r hs hal
    exact ⟨X', by simp only [opA, h1, Option.bind_eq_bind, Option.bind_some, k1], k2⟩
  · simp only [Option.bind_eq_bind, Option.bind_eq_some_iff, Option.map_eq_some_iff] at e
    obtain ⟨ps, h1, y, h2, e⟩ := e
    obtain ⟨k1, k2⟩ := same e
    exact ⟨X, by simp only [opA, h1, h2, Option.bind_eq_bind, Option.bind_some, Option.map_some, k1], k2⟩
  · simp only [Option.bind_eq_bind, Option.bind_eq_some_iff] at e
    obtain ⟨ps, h1, e⟩ := e
    obtain ⟨X', k1, k2⟩ := buildSliceA_frame r hs e
    exact ⟨X', by simp only [opA, h1, Option.bind_eq_bind, Option.bind_some, k1], k2⟩
  · simp only [Option.bind_eq_bind, Option.bind_eq_some_iff, Option.map_eq_some_iff] at e
    obtain ⟨p, h1, y, h2, e⟩ := e
    obtain ⟨k1, k2⟩ := same e
    exact ⟨X, by simp only [opA, h1, loadA_frame r h2, Option.bind_eq_bind, Option.bind_some, Option.map_some, k1], k2⟩
  · simp only [Option.bind_eq_bind, Option.bind_eq_some_iff, Option.map_eq_some_iff] at e
    obtain ⟨p, h1, q, h2, h', h3, e⟩ := e
    simp at e; obtain ⟨rfl, rfl⟩ := e
    obtain ⟨X', k1, k2⟩ := storeA_frame r h3
    exact ⟨X', by simp only [opA, h1, h2, k1, Option.bind_eq_bind, Option.bind_some, Option.map_some], k2⟩
  · split at e
    · rename_i h1
      simp at e; obtain ⟨rfl, rfl⟩ := e
      exact ⟨X, by simp only [opA, h1], r⟩
    · rename_i h1
      simp at e; obtain ⟨rfl, rfl⟩ := e
      exact ⟨X, by simp only [opA, h1], r⟩
    · rename_i h1
      simp at e; obtain ⟨rfl, rfl⟩ := e
      exact ⟨X, by simp only [opA, h1], r⟩
    · cases e
  · simp only [Option.bind_eq_bind, Option.bind_eq_some_iff, Option.map_eq_some_iff] at e
    obtain ⟨p, h1, q, h2, y, h3, e⟩ := e
    obtain ⟨k1, k2⟩ := same e
    exact ⟨X, by simp only [opA, h1, h2, h3, Option.bind_eq_bind, Option.bind_some, Option.map_some, k1], k2⟩
  · simp only [Option.bind_eq_bind, Option.bind_eq_some_iff, Option.map_eq_some_iff] at e
    obtain ⟨p, h1, y, h3, e⟩ := e
    obtain ⟨k1, k2⟩ := same e
    exact ⟨X, by simp only [opA, h1, h3, Option.bind_eq_bind, Option.bind_some, Option.map_some, k1], k2⟩
  · simp only [Option.bind_eq_bind, Option.bind_eq_some_iff] at e
    obtain ⟨p, h1, e⟩ := e
    obtain ⟨X', k1, k2⟩ := convA_frame r hs e
    exact ⟨X', by simp only [opA, h1, Option.bind_eq_bind, Option.bind_some, k1], k2⟩
  · simp only [Option.bind_eq_bind, Option.bind_eq_some_iff, Option.some.injEq] at e
    obtain ⟨p, h1, q, h2, e⟩ := e
    obtain ⟨k1, k2⟩ := same e
    exact ⟨X, by simp only [opA, h1, h2, Option.bind_eq_bind, Option.bind_some, k1], k2⟩
  · simp only [Option.bind_eq_bind, Option.bind_eq_some_iff] at e
    obtain ⟨p, h1, q, h2, e⟩ := e
    obtain ⟨X', k1, k2⟩ := makeSliceA_frame r hs e
    exact ⟨X', by simp only [opA, h1, h2, Option.bind_eq_bind, Option.bind_some, k1], k2⟩
  · simp only [Option.bind_eq_bind, Option.bind_eq_some_iff, Option.map_eq_some_iff] at e
    obtain ⟨p, h1, l, h2, k, h3, q, h4, y, h5, e⟩ := e
    obtain ⟨k1, k2⟩ := same e
    exact ⟨X, by simp only [opA, h1, h2, h3, h4, h5, Option.bind_eq_bind, Option.bind_some, Option.map_some, k1], k2⟩
  · simp only [Option.bind_eq_bind, Option.bind_eq_some_iff, Option.map_eq_some_iff] at e
    obtain ⟨p, h1, y, h3, e⟩ := e
    obtain ⟨k1, k2⟩ := same e
    exact ⟨X, by simp only [opA, h1, h3, Option.bind_eq_bind, Option.bind_some, Option.map_some, k1], k2⟩
  · simp only [Option.bind_eq_bind, Option.bind_eq_some_iff, Option.map_eq_some_iff] at e
    obtain ⟨p, h1, y, h3, e⟩ := e
    obtain ⟨k1, k2⟩ := same e
    exact ⟨X, by simp only [opA, h1, h3, Option.bind_eq_bind, Option.bind_some, Option.map_some, k1], k2⟩
  · simp only [Option.bind_eq_bind, Option.bind_eq_some_iff, Option.map_eq_some_iff] at e
    obtain ⟨p, h1, q, h2, y, h3, e⟩ := e
    obtain ⟨k1, k2⟩ := same e
    exact ⟨X, by simp only [opA, h1, h2, h3, Option.bind_eq_bind, Option.bind_some, Option.map_some, k1], k2⟩
  · simp only [Option.bind_eq_bind, Option.bind_eq_some_iff, Option.map_eq_some_iff] at e
    obtain ⟨p, h1, q, h2, y, h3, e⟩ := e
    obtain ⟨k1, k2⟩ := same e
    exact ⟨X, by simp only [opA, h1, h2, h3, Option.bind_eq_bind, Option.bind_some, Option.map_some, k1], k2⟩
  · split at e
    case h_2 => cases e
    rename_i h1
    split at e
    case h_2 => cases e
    rename_i h2
    simp only [Option.some.injEq] at e
    obtain ⟨k1, k2⟩ := same e
    exact ⟨X, by simp only [opA, h1, h2, k1], k2⟩
  · split at e
    · rename_i hcal
      simp only [Option.bind_eq_bind, Option.bind_eq_some_iff] at e
      obtain ⟨args, h1, e⟩ := e
      obtain ⟨X', k1, k2⟩ := builtinA_frame r hs e
      exact ⟨X', by simp only [opA, hcal, h1, Option.bind_eq_bind, Option.bind_some, k1], k2⟩
    · rename_i hcal
      split at e
      case h_2 => cases e
      rename_i hf
      simp only [Option.bind_eq_bind, Option.bind_eq_some_iff] at e
      obtain ⟨args, h1, u, h2, e⟩ := e
      obtain ⟨X', k1, k2⟩ := hcl _ _ _ _ _ _ e F X r
      exact ⟨X', by simp only [opA, hcal, hf, h1, h2, Option.bind_eq_bind, Option.bind_some, k1], k2⟩
    · cases e
  · cases e

theorem opsA_frame {cl : Caller} (hcl : CallFrame cl) {n : Nat} {all : List Oper} : ∀ {l : List Oper} {env : List AVal} {G X : Heap} {s : St}, Beside F G X → opsA C cl base n all l (env, G) = some s →
    ∃ X', opsA C cl base n all l (env, X) = some (s.1, X') ∧ Beside F s.2 X'
  | [], env, G, X, s, r, e => by simp [opsA] at e; subst e; exact ⟨X, rfl, r⟩
  | o :: rest, env, G, X, s, r, e => by
    simp only [opsA] at e ⊢
    split at e
    · rename_i hw
      rw [if_pos hw]
      split at e
      case h_2 => cases e
      rename_i v G1 hop
      obtain ⟨X1, k1, k2⟩ := opA_frame hcl r (fun s hs => by cases hs) hop
      rw [k1]
      simp only
      split at e
      case h_2 => cases e
      rename_i env' hp
      exact opsA_frame hcl k2 e
    · rename_i hw
      rw [if_neg hw]
      split at e
      case h_2 => cases e
      rename_i env' hp
      exact opsA_frame hcl r e

theorem Beside.set' (r : Beside F G X) {l : Nat} (hF : F l = none) (b : Blk) : Beside F (G.set l (some b)) (X.set l (some b)) := by
  by_cases hl : l < G.length
  · have hlX : l < X.length := by rw [r.len]; exact hl
    refine ⟨by simp [r.len], fun k => ?_, fun k x hx => ?_⟩
    · rw [hget_set _ _ _ _ hl, hget_set _ _ _ _ hlX]
      split
      · rfl
      · exact r.at_ k
    · have := r.lt k x hx
      refine ⟨by simpa using this.1, ?_⟩
      rw [hget_set _ _ _ _ hl, if_neg (fun hk => by subst hk; rw [hF] at hx; cases hx)]
      exact this.2
  · rw [List.set_eq_of_length_le (by omega), List.set_eq_of_length_le (by rw [r.len]; omega)]; exact r

theorem mergeF_frame {c : Nat} {p : Nat → Bool} (hF : ∀ l, c ≤ l → F l = none) : ∀ {fl : List (Nat × Blk)} {G X : Heap}, Beside F G X → Beside F (mergeF c p fl G) (mergeF c p fl X)
  | [], G, X, r => r
  | (j, b) :: fl, G, X, r => by
    simp only [mergeF]
    split
    · exact mergeF_frame hF (r.set' (hF _ (Nat.le_add_right _ _)) b)
    · exact mergeF_frame hF r

theorem dstep_frame {cl : Caller} (hcl : CallFrame cl) {n c : Nat} {all : List Oper} {bs : List Nat} {i : Nat} {o : Oper} {s s' : DS} {X : Heap} (hF : ∀ l, c ≤ l → F l = none) (r : Beside F s.G X) (e : dstep C cl base n c all bs i o s = some s') :
    ∃ X', dstep C cl base n c all bs i o { s with G := X } = some { s' with G := X' } ∧ Beside F s'.G X' := by
  have hslot : ∀ k, some (c + i) = some k → F k = none := fun k hk => hF k (by simp at hk; omega)
  unfold dstep at e ⊢
  simp only
  split at e
  · rename_i hw
    rw [if_pos hw]
    split at e
    · split at e
      case h_2 => cases e
      rename_i v G1 hop
      obtain ⟨X1, k1, k2⟩ := opA_frame hcl r (fun s hs => by cases hs) hop
      rw [k1]; simp only
      split at e
      case h_2 => cases e
      rename_i env hp
      simp at e; subst e
      simp only [hp]
      exact ⟨X, rfl, r⟩
    · simp only at e ⊢
      split at e
      case isFalse => cases e
      rename_i hro
      rw [if_pos hro]
      split at e
      case h_2 => cases e
      rename_i v G1 hop
      obtain ⟨X1, k1, k2⟩ := opA_frame hcl (mergeF_frame (c := c) (p := fun _ => true) (fl := s.fl) hF r) (fun s hs => by cases hs) hop
      rw [k1]; simp only
      split at e
      case h_2 => cases e
      rename_i env hp
      simp at e; subst e
      simp only [hp]
      exact ⟨X, rfl, r⟩
    · split at e
      case h_2 => cases e
      rename_i v G1 hop
      obtain ⟨X1, k1, k2⟩ := opA_frame hcl r hslot hop
      rw [k1]; simp only
      split at e
      case h_2 => cases e
      rename_i b hb
      rw [k2.get hb]; simp only
      split at e
      case h_2 => cases e
      rename_i env hp
      simp at e; subst e
      simp only [hp]
      exact ⟨X, rfl, r⟩
    · simp only at e ⊢
      split at e
      case isFalse => cases e
      rename_i hro
      rw [r.len, if_pos hro]
      split at e
      case h_2 => cases e
      rename_i v G1 hop
      have r1 := mergeF_frame (c := c) (p := waitsB bs i) (fl := s.fl) hF r
      obtain ⟨X1, k1, k2⟩ := opA_frame hcl r1 hslot hop
      rw [k1]; simp only
      split at e
      case h_2 => cases e
      rename_i env hp
      simp at e; subst e
      simp only [hp]
      exact ⟨X1, by rw [r1.len], k2⟩
  · rename_i hw
    rw [if_neg hw]
    split at e
    case h_2 => cases e
    rename_i env hp
    simp at e; subst e
    simp only [hp]
    exact ⟨X, rfl, r⟩

theorem dsteps_frame {cl : Caller} (hcl : CallFrame cl) {n c : Nat} {all : List Oper} {bs : List Nat} (hF : ∀ l, c ≤ l → F l = none) : ∀ {os : List Oper} {i : Nat} {s s' : DS} {X : Heap}, Beside F s.G X → dsteps C cl base n c all bs i os s = some s' →
    ∃ X', dsteps C cl base n c all bs i os { s with G := X } = some { s' with G := X' } ∧ Beside F s'.G X'
  | [], i, s, s', X, r, e => by simp [dsteps] at e; subst e; exact ⟨X, rfl, r⟩
  | o :: os, i, s, s', X, r, e => by
    simp only [dsteps] at e ⊢
    split at e
    case h_2 => cases e
    rename_i s1 h1
    obtain ⟨X1, k1, k2⟩ := dstep_frame hcl hF r h1
    rw [k1]
    exact dsteps_frame hcl hF k2 e

theorem drawA_frame {cl : Caller} (hcl : CallFrame cl) {n : Nat} {all : List Oper} {env : List AVal} {G X : Heap} {s : St} (r : Beside F G X) (e : drawA C cl base n all (env, G) = some s) :
    ∃ X', drawA C cl base n all (env, X) = some (s.1, X') ∧ Beside F s.2 X' := by
  unfold drawA at e ⊢
  simp only at e ⊢
  split at e
  case isFalse => cases e
  rename_i ho
  rw [if_pos ho]
  split at e
  case h_2 => cases e
  rename_i t ht
  simp at e; subst e
  have hF : ∀ l, G.length ≤ l → F l = none := fun l hl => by
    cases hf : F l with
    | none => rfl
    | some b => have := (r.lt l b hf).1; omega
  have r0 : ∀ k, Beside F (G ++ List.replicate k none) (X ++ List.replicate k none) := fun k => by
    induction k with
    | zero => simpa using r
    | succ k ih =>
      have := ih.push none
      simpa [List.replicate_succ', List.append_assoc] using this
  obtain ⟨X1, k1, k2⟩ := dsteps_frame hcl hF (r0 all.length) ht
  rw [r.len, k1]
  exact ⟨_, rfl, mergeF_frame hF k2⟩

theorem loopA_frame {body : St → Option (Ex × St)} (hb : ∀ {env G X x s}, Beside F G X → body (env, G) = some (x, s) → ∃ X', body (env, X) = some (x, (s.1, X')) ∧ Beside F s.2 X') :
    ∀ {k : Nat} {env : List AVal} {G X : Heap} {x : Ex} {s : St}, Beside F G X → loopA body k (env, G) = some (x, s) → ∃ X', loopA body k (env, X) = some (x, (s.1, X')) ∧ Beside F s.2 X'
  | 0, env, G, X, x, s, r, e => by simp [loopA] at e
  | k + 1, env, G, X, x, s, r, e => by
    simp only [loopA] at e ⊢
    cases h1 : body (env, G) with
    | none => rw [h1] at e; cases e
    | some q =>
      obtain ⟨ex, s1⟩ := q
      obtain ⟨X1, k1, k2⟩ := hb r h1
      rw [h1] at e
      rw [k1]
      cases ex with
      | normal => exact loopA_frame hb k2 e
      | exit i => simp at e; obtain ⟨rfl, rfl⟩ := e; exact ⟨X1, rfl, k2⟩
      | ret => simp at e; obtain ⟨rfl, rfl⟩ := e; exact ⟨X1, rfl, k2⟩

theorem execA_frame {cl : Caller} (hcl : CallFrame cl) {N n : Nat} : ∀ {c : Code} {env : List AVal} {G X : Heap} {x : Ex} {s : St}, Beside F G X → execA C cl N base n c (env, G) = some (x, s) →
    ∃ X', execA C cl N base n c (env, X) = some (x, (s.1, X')) ∧ Beside F s.2 X'
  | .skip, env, G, X, x, s, r, e => by simp [execA] at e; obtain ⟨rfl, rfl⟩ := e; exact ⟨X, rfl, r⟩
  | .region id ops d, env, G, X, x, s, r, e => by
    simp only [execA] at e ⊢
    split at e
    case h_2 => cases e
    rename_i s' hops
    simp at e; obtain ⟨rfl, rfl⟩ := e
    cases d with
    | true =>
      simp only [if_true] at hops ⊢
      obtain ⟨X', k1, k2⟩ := drawA_frame hcl r hops
      exact ⟨X', by rw [k1], k2⟩
    | false =>
      simp only [Bool.false_eq_true, if_false] at hops ⊢
      obtain ⟨X', k1, k2⟩ := opsA_frame hcl r hops
      exact ⟨X', by rw [k1], k2⟩
  | .seq a b, env, G, X, x, s, r, e => by
    simp only [execA] at e ⊢
    cases h1 : execA C cl N base n a (env, G) with
    | none => rw [h1] at e; cases e
    | some q =>
      obtain ⟨ex, s1⟩ := q
      obtain ⟨X1, k1, k2⟩ := execA_frame hcl r h1
      rw [h1] at e
      rw [k1]
      cases ex with
      | normal => exact execA_frame hcl k2 e
      | exit i => simp at e; obtain ⟨rfl, rfl⟩ := e; exact ⟨X1, rfl, k2⟩
      | ret => simp at e; obtain ⟨rfl, rfl⟩ := e; exact ⟨X1, rfl, k2⟩
  | .cond c a b, env, G, X, x, s, r, e => by
    simp only [execA] at e ⊢
    split at e
    · rename_i hc; exact execA_frame hcl r e
    · rename_i hc; exact execA_frame hcl r e
    · cases e
  | .block id b, env, G, X, x, s, r, e => by
    simp only [execA] at e ⊢
    cases h1 : execA C cl N base n b (env, G) with
    | none => rw [h1] at e; cases e
    | some q =>
      obtain ⟨ex, s1⟩ := q
      obtain ⟨X1, k1, k2⟩ := execA_frame hcl r h1
      rw [h1] at e
      rw [k1]
      cases ex with
      | normal => simp at e; obtain ⟨rfl, rfl⟩ := e; exact ⟨X1, rfl, k2⟩
      | ret => simp at e; obtain ⟨rfl, rfl⟩ := e; exact ⟨X1, rfl, k2⟩
      | exit i =>
        simp only at e ⊢
        split at e
        · rename_i hi
          simp at e; obtain ⟨rfl, rfl⟩ := e
          exact ⟨X1, if_pos hi, k2⟩
        · rename_i hi
          simp at e; obtain ⟨rfl, rfl⟩ := e
          exact ⟨X1, if_neg hi, k2⟩
  | .loop b, env, G, X, x, s, r, e => by
    simp only [execA] at e ⊢
    exact loopA_frame (fun r e => execA_frame hcl r e) r e
  | .exit id, env, G, X, x, s, r, e => by simp [execA] at e; obtain ⟨rfl, rfl⟩ := e; exact ⟨X, rfl, r⟩
  | .ret, env, G, X, x, s, r, e => by simp [execA] at e; obtain ⟨rfl, rfl⟩ := e; exact ⟨X, rfl, r⟩
  | .rangeFunc .., env, G, X, x, s, r, e => by simp [execA] at e
  | .scope _, env, G, X, x, s, r, e => by simp [execA] at e
  | .label _, env, G, X, x, s, r, e => by simp [execA] at e
  | .goto _, env, G, X, x, s, r, e => by simp [execA] at e
  | .refuse _, env, G, X, x, s, r, e => by simp [execA] at e

theorem mapO_same {α β : Type} {f g : α → Option β} : ∀ {l : List α} {ys : List β}, (∀ x y, x ∈ l → f x = some y → g x = some y) → mapO f l = some ys → mapO g l = some ys
  | [], ys, h, e => e
  | x :: xs, ys, h, e => by
    simp only [mapO] at e ⊢
    split at e
    · cases e
    rename_i y hy
    rw [h x y (by simp) hy]
    split at e
    · cases e
    rename_i ys' hys
    rw [mapO_same (fun z w hz => h z w (by simp [hz])) hys]
    exact e

theorem frz_frame (r : Beside F G X) {n : Nat} : ∀ (d : Nat) {top : Bool} {a b : AVal}, frz P d top n G a = some b → frz P d top n X a = some b
  | 0, top, a, b, e => by simp [frz] at e
  | d + 1, top, a, b, e => by
    simp only [frz] at e ⊢
    have ih : ∀ {t : Bool} {l ys}, mapO (frz P d t n G) l = some ys → mapO (frz P d t n X) l = some ys := fun h => mapO_same (fun x y _ hx => frz_frame r d hx) h
    split at e
    · split at e
      · rename_i hl; simp only [if_pos hl]; exact e
      · rename_i hl
        simp only [if_neg hl]
        split at e
        · cases e
        rename_i b' hb
        simp only [r.get hb]
        split at e
        · cases e
        rename_i sz hsz
        split at e
        case isFalse => cases e
        rename_i hle
        rw [if_pos hle]
        split at e
        case h_2 => cases e
        rename_i cs hcs
        rw [ih hcs]
        exact e
    · exact e
    · split at e
      · rename_i ht
        simp only [if_pos ht]
        split at e
        case h_2 => cases e
        rename_i x y hx hy
        rw [ih hx, ih hy]
        exact e
      · rename_i ht
        simp only [if_neg ht]
        exact e
    · cases e
    · split at e
      case isFalse => cases e
      rename_i ht
      simp only [if_pos ht]
      simp only [Option.map_eq_some_iff] at e ⊢
      obtain ⟨cs, h1, h2⟩ := e
      exact ⟨cs, ih h1, h2⟩
    · split at e
      case isFalse => cases e
      rename_i ht
      simp only [if_pos ht]
      simp only [Option.map_eq_some_iff] at e ⊢
      obtain ⟨cs, h1, h2⟩ := e
      exact ⟨cs, ih h1, h2⟩
    · exact e

/-- what is handed in looks at no row that it does not name -/
def ExtFrame (C : Cfg) : Prop := ∀ f g, C.ext f = some g → ∀ args G v, g args G = some v → ∀ F X, Beside F G X → g args X = some v

theorem doCall_frame {rn : Caller} (hE : ExtFrame C) (hrn : CallFrame rn) : CallFrame (doCall C rn) := by
  intro base f args G v G' e F X r
  unfold doCall at e ⊢
  split at e
  · rename_i g hg
    split at e
    case h_2 => cases e
    rename_i y hy
    simp at e; obtain ⟨rfl, rfl⟩ := e
    simp only [hE f g hg args G y hy F X r]
    exact ⟨X, rfl, r⟩
  · rename_i hg
    split at e
    · split at e
      case h_2 => cases e
      rename_i y G1 hr
      split at e
      case h_2 => cases e
      rename_i u hu
      simp at e; obtain ⟨rfl, rfl⟩ := e
      obtain ⟨X1, k1, k2⟩ := hrn _ _ _ _ _ _ hr F X r
      have hl := r.len
      rw [hl, k1]
      simp only [frz_frame k2 9 hu]
      exact ⟨X, rfl, r⟩
    · rw [r.len]
      exact hrn _ _ _ _ _ _ e F X r
    · exact hrn _ _ _ _ _ _ e F X r
    · cases e

theorem runA_frame (hE : ExtFrame C) : ∀ n, CallFrame (runA C n)
  | 0 => fun base f args G v G' e => by simp [runA] at e
  | n + 1 => fun base f args G v G' e F X r => by
    simp only [runA] at e ⊢
    split at e
    · cases e
    rename_i fn hf
    split at e
    · cases e
    rename_i c hc
    split at e
    · cases e
    rename_i hlen
    rw [if_neg hlen]
    split at e
    · cases e
    · rename_i x s hne hx
      split at e
      case h_2 => cases e
      rename_i y hy
      simp at e; obtain ⟨rfl, rfl⟩ := e
      obtain ⟨X', k1, k2⟩ := execA_frame (doCall_frame hE (runA_frame hE n)) r hx
      have hfin : finishA C.P fn (s.1, X') = some y := by
        unfold finishA at hy ⊢
        have key : ∀ {l vs}, mapO (resA C.P s) l = some vs → mapO (resA C.P (s.1, X')) l = some vs := fun h => mapO_same (fun rv z _ hz => by
          cases rv with
          | tmp t => exact hz
          | cell a t => exact loadA_frame k2 hz) h
        split at hy
        · rename_i v hv; rw [key hv]; exact hy
        · rename_i vs hne' hv
          rw [key hv]
          simp only
          exact hy
        · cases hy
      rw [k1]
      refine ⟨X', ?_, k2⟩
      cases x with
      | exit i => exact (hne i rfl).elim
      | normal => simp only [hfin]
      | ret => simp only [hfin]
    · cases e
end Go.Abs
