/-
  The machine of values leaves alone the rows below its base.
-/
import Derived.Test.YtcdjkpppfghkpaaAbsFrame
set_option linter.unusedSimpArgs false
set_option linter.unusedVariables false
namespace Go.Abs
open Go

/-- rows below base are as they were (but for the one whose place is filled); none goes -/
structure Kept (base : Nat) (slot : Option Nat) (G G' : Heap) : Prop where
  len : G.length ≤ G'.length
  at_ : ∀ l, l < base → slot ≠ some l → hget G' l = hget G l

variable {C : Cfg} {P : Program} {G G' : Heap} {base : Nat} {slot : Option Nat}

theorem Kept.refl (base : Nat) (slot : Option Nat) (G : Heap) : Kept base slot G G := ⟨Nat.le_refl _, fun _ _ _ => rfl⟩
theorem Kept.trans {G'' : Heap} (a : Kept base none G G') (b : Kept base none G' G'') : Kept base none G G'' := ⟨Nat.le_trans a.len b.len, fun l h1 h2 => (b.at_ l h1 h2).trans (a.at_ l h1 h2)⟩

theorem write_kept {l o : Nat} {vs : List AVal} (e : write G base l o vs = some G') : Kept base slot G G' := by
  unfold write at e
  split at e
  case h_2 => cases e
  rename_i b hb
  split at e
  case isFalse => cases e
  rename_i hc
  simp at e; subst e
  exact ⟨by simp, fun k hk _ => by rw [hget_set _ _ _ _ (hget_lt hb), if_neg (by omega)]⟩

theorem halloc_kept {blk : Blk} {l : Nat} (hb : base ≤ G.length) (e : halloc G slot blk = some (l, G')) : Kept base slot G G' := by
  obtain ⟨h1, _, h3, _, _, h6⟩ := halloc_get e
  refine ⟨h3, fun k hk hs => ?_⟩
  rw [h1, if_neg]
  rcases h6 with ⟨_, rfl⟩ | h6
  · omega
  · exact fun hh => hs (hh ▸ h6)

theorem storeA_kept {t : TypeId} {a v : AVal} (e : storeA P G base t a v = some G') : Kept base slot G G' := by
  unfold storeA at e
  split at e
  case h_2 => cases e
  split at e
  case isFalse => cases e
  exact write_kept e

theorem appendA_kept (hb : base ≤ G.length) {el : TypeId} {s v : AVal} {n : Nat} {new : List AVal} (e : appendA P G base slot el s n new = some (v, G')) : Kept base slot G G' := by
  simp only [appendA, Option.bind_eq_bind, Option.bind_eq_some_iff] at e
  obtain ⟨size, h1, by_, h2, u1, h3, u2, h4, e⟩ := e
  cases s with
  | own l off len cap =>
    simp only at e
    split at e
    · simp at e; obtain ⟨rfl, rfl⟩ := e; exact Kept.refl _ _ _
    split at e
    · cases e
    rename_i b hb'
    split at e
    · split at e
      · split at e
        · cases e
        simp only [Option.bind_eq_bind, Option.bind_eq_some_iff] at e
        obtain ⟨h', hw, e⟩ := e
        simp at e; obtain ⟨rfl, rfl⟩ := e
        exact write_kept hw
      · split at e
        case isFalse => cases e
        simp only [Option.bind_eq_bind, Option.bind_eq_some_iff] at e
        obtain ⟨⟨l', h'⟩, hw, e⟩ := e
        simp at e; obtain ⟨rfl, rfl⟩ := e
        exact halloc_kept hb hw
    · split at e
      case isFalse => cases e
      rename_i hc
      simp only [Option.bind_eq_bind, Option.bind_eq_some_iff] at e
      obtain ⟨⟨l', h'⟩, hw, e⟩ := e
      simp at e; obtain ⟨rfl, rfl⟩ := e
      have k := halloc_kept (base := base) (by simpa using hb) hw
      refine ⟨by have := k.len; simpa using this, fun x hx hs => (k.at_ x hx hs).trans ?_⟩
      rw [hget_set _ _ _ _ (hget_lt hb'), if_neg (by omega)]
  | lst isNil xs =>
    simp only at e
    split at e
    · simp at e; obtain ⟨rfl, rfl⟩ := e; exact Kept.refl _ _ _
    split at e
    case isFalse => cases e
    simp only [Option.bind_eq_bind, Option.bind_eq_some_iff] at e
    obtain ⟨⟨l', h'⟩, hw, e⟩ := e
    simp at e; obtain ⟨rfl, rfl⟩ := e
    exact halloc_kept hb hw
  | _ => simp at e

theorem builtinA_kept (hb : base ≤ G.length) {b : Builtin} {ts : List TypeId} {args : List AVal} {v : AVal} (e : builtinA P G base slot b ts args = some (v, G')) : Kept base slot G G' := by
  unfold builtinA at e
  split at e
  · split at e
    · simp at e; obtain ⟨rfl, rfl⟩ := e; exact Kept.refl _ _ _
    · simp at e; obtain ⟨rfl, rfl⟩ := e; exact Kept.refl _ _ _
    · simp at e; obtain ⟨rfl, rfl⟩ := e; exact Kept.refl _ _ _
    · simp at e; obtain ⟨rfl, rfl⟩ := e; exact Kept.refl _ _ _
    · split at e
      · simp at e; obtain ⟨rfl, rfl⟩ := e; exact Kept.refl _ _ _
      · cases e
    · cases e
  · split at e
    · simp at e; obtain ⟨rfl, rfl⟩ := e; exact Kept.refl _ _ _
    · simp at e; obtain ⟨rfl, rfl⟩ := e; exact Kept.refl _ _ _
    · cases e
  · simp only [Option.bind_eq_bind, Option.bind_eq_some_iff] at e
    obtain ⟨el, h1, size, h2, z, h3, u, h4, isInt, h5, e⟩ := e
    split at e
    · split at e
      case h_2 => cases e
      simp only [Option.bind_eq_bind, Option.bind_eq_some_iff] at e
      obtain ⟨by_, h6, e⟩ := e
      split at e
      case isFalse => cases e
      exact appendA_kept hb e
    · simp only [Option.bind_eq_bind, Option.bind_eq_some_iff] at e
      obtain ⟨n, h6, new, h7, e⟩ := e
      exact appendA_kept hb e
  · rename_i t _ d s _
    simp only [Option.bind_eq_bind, Option.bind_eq_some_iff] at e
    obtain ⟨el, h1, size, h2, n, h3, k, h4, new, h5, e⟩ := e
    cases d with
    | own l off len cap =>
      simp only [Option.bind_eq_bind, Option.bind_eq_some_iff] at e
      obtain ⟨h', hw, e⟩ := e
      simp at e; obtain ⟨rfl, rfl⟩ := e
      exact write_kept hw
    | lst isNil xs =>
      have e : (if min n k = 0 then some (AVal.int .i64 ((min n k : Nat) : Int), G) else none) = some (v, G') := e
      split at e
      case isFalse => cases e
      simp at e; obtain ⟨rfl, rfl⟩ := e
      exact Kept.refl _ _ _
    | _ => simp [dstLen] at h4
  · simp only [Option.bind_eq_bind, Option.bind_eq_some_iff] at e
    obtain ⟨el, h1, z, h2, size, h3, u, h4, e⟩ := e
    split at e
    · split at e
      case isFalse => cases e
      simp at e; obtain ⟨rfl, rfl⟩ := e
      exact Kept.refl _ _ _
    · split at e
      · simp at e; obtain ⟨rfl, rfl⟩ := e; exact Kept.refl _ _ _
      · simp only [Option.bind_eq_bind, Option.bind_eq_some_iff] at e
        obtain ⟨h', hw, e⟩ := e
        simp at e; obtain ⟨rfl, rfl⟩ := e
        exact write_kept hw
    · cases e
  · simp only [Option.map_eq_some_iff] at e
    obtain ⟨y, hy, e⟩ := e
    simp at e; obtain ⟨rfl, rfl⟩ := e
    exact Kept.refl _ _ _
  · simp only [Option.map_eq_some_iff] at e
    obtain ⟨y, hy, e⟩ := e
    simp at e; obtain ⟨rfl, rfl⟩ := e
    exact Kept.refl _ _ _
  · cases e

def CallKept (cl : Caller) : Prop := ∀ base f args G v G', cl base f args G = some (v, G') → base ≤ G.length → Kept base none G G'

theorem opA_kept {cl : Caller} (hcl : CallKept cl) (hb : base ≤ G.length) {env : List AVal} {op : Op} {v : AVal} (e : opA C cl base slot env G op = some (v, G')) : Kept base slot G G' := by
  have same : ∀ {y : AVal}, (y, G) = (v, G') → Kept base slot G G' := fun {y} h => by simp at h; obtain ⟨rfl, rfl⟩ := h; exact Kept.refl _ _ _
  unfold opA at e
  split at e
  · simp only [Option.map_eq_some_iff] at e; obtain ⟨y, h1, e⟩ := e; exact same e
  · simp only [Option.map_eq_some_iff] at e; obtain ⟨y, h1, e⟩ := e; exact same e
  · split at e
    · simp only [Option.map_eq_some_iff] at e; obtain ⟨y, h1, e⟩ := e; exact same e
    · simp only [Option.map_eq_some_iff] at e; obtain ⟨y, h1, e⟩ := e; exact same e
    · cases e
  · simp only [Option.bind_eq_bind, Option.bind_eq_some_iff] at e
    obtain ⟨z, h1, ⟨l, h'⟩, hal, e⟩ := e
    simp at e; obtain ⟨rfl, rfl⟩ := e
    exact halloc_kept hb hal
  · simp only [Option.bind_eq_bind, Option.bind_eq_some_iff] at e
    obtain ⟨z, h1, ⟨l, h'⟩, hal, e⟩ := e
    simp at e; obtain ⟨rfl, rfl⟩ := e
    exact halloc_kept hb hal
  · simp only [Option.bind_eq_bind, Option.bind_eq_some_iff, Option.map_eq_some_iff] at e
    obtain ⟨ps, h1, y, h2, e⟩ := e; exact same e
  · simp only [buildSliceA, Option.bind_eq_bind, Option.bind_eq_some_iff] at e
    obtain ⟨ps, h1, el, he, s, hs', _, hg, z, hz, _, hg2, cells, hf, ⟨l, h1⟩, ha, e⟩ := e
    simp at e; obtain ⟨rfl, rfl⟩ := e
    exact halloc_kept hb ha
  · simp only [Option.bind_eq_bind, Option.bind_eq_some_iff, Option.map_eq_some_iff] at e
    obtain ⟨p, h1, y, h2, e⟩ := e; exact same e
  · simp only [Option.bind_eq_bind, Option.bind_eq_some_iff, Option.map_eq_some_iff] at e
    obtain ⟨p, h1, q, h2, h', h3, e⟩ := e
    simp at e; obtain ⟨rfl, rfl⟩ := e
    exact storeA_kept h3
  · split at e
    · simp at e; obtain ⟨rfl, rfl⟩ := e; exact Kept.refl _ _ _
    · simp at e; obtain ⟨rfl, rfl⟩ := e; exact Kept.refl _ _ _
    · simp at e; obtain ⟨rfl, rfl⟩ := e; exact Kept.refl _ _ _
    · cases e
  · simp only [Option.bind_eq_bind, Option.bind_eq_some_iff, Option.map_eq_some_iff] at e
    obtain ⟨p, h1, q, h2, y, h3, e⟩ := e; exact same e
  · simp only [Option.bind_eq_bind, Option.bind_eq_some_iff, Option.map_eq_some_iff] at e
    obtain ⟨p, h1, y, h3, e⟩ := e; exact same e
  · simp only [Option.bind_eq_bind, Option.bind_eq_some_iff] at e
    obtain ⟨p, h1, e⟩ := e
    unfold convA at e
    split at e
    · simp at e; obtain ⟨rfl, rfl⟩ := e; exact Kept.refl _ _ _
    · simp at e; obtain ⟨rfl, rfl⟩ := e; exact Kept.refl _ _ _
    · split at e
      case isFalse => cases e
      simp only [Option.bind_eq_bind, Option.bind_eq_some_iff] at e
      obtain ⟨⟨l, h3⟩, ha, e⟩ := e
      simp at e; obtain ⟨rfl, rfl⟩ := e
      exact halloc_kept hb ha
    · split at e
      case isFalse => cases e
      simp only [Option.bind_eq_bind, Option.bind_eq_some_iff] at e
      obtain ⟨n, hn, _, hg, cs, hcs, bs, hbs, e⟩ := e
      simp at e; obtain ⟨rfl, rfl⟩ := e
      exact Kept.refl _ _ _
    · cases e
  · simp only [Option.bind_eq_bind, Option.bind_eq_some_iff, Option.some.injEq] at e
    obtain ⟨p, h1, q, h2, e⟩ := e; exact same e
  · simp only [makeSliceA, Option.bind_eq_bind, Option.bind_eq_some_iff] at e
    obtain ⟨p, h1, q, h2, el, he, s, hs', by_, hb', z, hz, _, hg2, e⟩ := e
    split at e
    case h_2 => cases e
    split at e
    case isFalse => cases e
    simp only [Option.bind_eq_bind, Option.bind_eq_some_iff] at e
    obtain ⟨⟨l, h1⟩, ha, e⟩ := e
    simp at e; obtain ⟨rfl, rfl⟩ := e
    exact halloc_kept hb ha
  · simp only [Option.bind_eq_bind, Option.bind_eq_some_iff, Option.map_eq_some_iff] at e
    obtain ⟨p, h1, l, h2, k, h3, q, h4, y, h5, e⟩ := e; exact same e
  · simp only [Option.bind_eq_bind, Option.bind_eq_some_iff, Option.map_eq_some_iff] at e
    obtain ⟨p, h1, y, h3, e⟩ := e; exact same e
  · simp only [Option.bind_eq_bind, Option.bind_eq_some_iff, Option.map_eq_some_iff] at e
    obtain ⟨p, h1, y, h3, e⟩ := e; exact same e
  · simp only [Option.bind_eq_bind, Option.bind_eq_some_iff, Option.map_eq_some_iff] at e
    obtain ⟨p, h1, q, h2, y, h3, e⟩ := e; exact same e
  · simp only [Option.bind_eq_bind, Option.bind_eq_some_iff, Option.map_eq_some_iff] at e
    obtain ⟨p, h1, q, h2, y, h3, e⟩ := e; exact same e
  · split at e
    case h_2 => cases e
    split at e
    case h_2 => cases e
    simp only [Option.some.injEq] at e
    exact same e
  · split at e
    · simp only [Option.bind_eq_bind, Option.bind_eq_some_iff] at e
      obtain ⟨args, h1, e⟩ := e
      exact builtinA_kept hb e
    · split at e
      case h_2 => cases e
      simp only [Option.bind_eq_bind, Option.bind_eq_some_iff] at e
      obtain ⟨args, h1, u, h2, e⟩ := e
      have k := hcl _ _ _ _ _ _ e hb
      exact ⟨k.len, fun l hl _ => k.at_ l hl (by simp)⟩
    · cases e
  · cases e

theorem opsA_kept {cl : Caller} (hcl : CallKept cl) {n : Nat} {all : List Oper} : ∀ {l : List Oper} {env : List AVal} {G : Heap} {s : St}, base ≤ G.length → opsA C cl base n all l (env, G) = some s → Kept base none G s.2
  | [], env, G, s, hb, e => by simp [opsA] at e; subst e; exact Kept.refl _ _ _
  | o :: rest, env, G, s, hb, e => by
    simp only [opsA] at e
    split at e
    · split at e
      case h_2 => cases e
      rename_i v G1 hop
      split at e
      case h_2 => cases e
      have k := opA_kept hcl hb hop
      exact k.trans (opsA_kept hcl (Nat.le_trans hb k.len) e)
    · split at e
      case h_2 => cases e
      exact opsA_kept hcl hb e

theorem Kept.noslot {s : Nat} (k : Kept base (some s) G G') (hs : base ≤ s) : Kept base none G G' := ⟨k.len, fun l hl _ => k.at_ l hl (fun h => by simp at h; omega)⟩

theorem mergeF_kept {c : Nat} {p : Nat → Bool} (hc : base ≤ c) : ∀ {fl : List (Nat × Blk)} {G : Heap}, Kept base none G (mergeF c p fl G)
  | [], G => Kept.refl _ _ _
  | (j, b) :: r, G => by
    simp only [mergeF]
    refine Kept.trans ?_ (mergeF_kept hc)
    split
    · refine ⟨by simp, fun l hl _ => ?_⟩
      by_cases h : c + j < G.length
      · rw [hget_set _ _ _ _ h, if_neg (by omega)]
      · rw [List.set_eq_of_length_le (by omega)]
    · exact Kept.refl _ _ _

theorem mergeF_length {c : Nat} {p : Nat → Bool} : ∀ {fl : List (Nat × Blk)} {G : Heap}, (mergeF c p fl G).length = G.length
  | [], G => rfl
  | (j, b) :: r, G => by simp only [mergeF]; rw [mergeF_length]; split <;> simp

theorem dstep_kept {cl : Caller} (hcl : CallKept cl) {n c : Nat} {all : List Oper} {bs : List Nat} {i : Nat} {o : Oper} {s s' : DS} (hb : base ≤ s.G.length) (hc : base ≤ c) (e : dstep C cl base n c all bs i o s = some s') : Kept base none s.G s'.G := by
  unfold dstep at e
  split at e
  · split at e
    · split at e
      case h_2 => cases e
      split at e
      case h_2 => cases e
      simp at e; subst e; exact Kept.refl _ _ _
    · simp only at e
      split at e
      case isFalse => cases e
      split at e
      case h_2 => cases e
      split at e
      case h_2 => cases e
      simp at e; subst e; exact Kept.refl _ _ _
    · split at e
      case h_2 => cases e
      split at e
      case h_2 => cases e
      split at e
      case h_2 => cases e
      simp at e; subst e; exact Kept.refl _ _ _
    · simp only at e
      split at e
      case isFalse => cases e
      split at e
      case h_2 => cases e
      rename_i v G1 hop
      split at e
      case h_2 => cases e
      simp at e; subst e
      have k1 : Kept base none s.G (mergeF c (waitsB bs i) s.fl s.G) := mergeF_kept hc
      exact k1.trans ((opA_kept hcl (Nat.le_trans hb k1.len) hop).noslot (by omega))
  · split at e
    case h_2 => cases e
    simp at e; subst e; exact Kept.refl _ _ _

theorem dsteps_kept {cl : Caller} (hcl : CallKept cl) {n c : Nat} {all : List Oper} {bs : List Nat} (hc : base ≤ c) : ∀ {os : List Oper} {i : Nat} {s s' : DS}, base ≤ s.G.length → dsteps C cl base n c all bs i os s = some s' → Kept base none s.G s'.G
  | [], i, s, s', hb, e => by simp [dsteps] at e; subst e; exact Kept.refl _ _ _
  | o :: os, i, s, s', hb, e => by
    simp only [dsteps] at e
    split at e
    case h_2 => cases e
    rename_i s1 h1
    have k := dstep_kept hcl hb hc h1
    exact k.trans (dsteps_kept hcl hc (Nat.le_trans hb k.len) e)

theorem drawA_kept {cl : Caller} (hcl : CallKept cl) {n : Nat} {all : List Oper} {env : List AVal} {G : Heap} {s : St} (hb : base ≤ G.length) (e : drawA C cl base n all (env, G) = some s) : Kept base none G s.2 := by
  unfold drawA at e
  simp only at e
  split at e
  case isFalse => cases e
  split at e
  case h_2 => cases e
  rename_i t ht
  simp at e; subst e
  have k0 : Kept base none G (G ++ List.replicate all.length none) := ⟨by simp, fun l hl _ => by
    rw [hget_eq, hget_eq, List.getElem?_append, if_pos (by omega)]⟩
  have k1 := dsteps_kept hcl hb (by simp; omega) ht
  exact (k0.trans k1).trans (mergeF_kept hb)

theorem loopA_kept {body : St → Option (Ex × St)} (hbody : ∀ {env G x s}, base ≤ G.length → body (env, G) = some (x, s) → Kept base none G s.2) :
    ∀ {k : Nat} {env : List AVal} {G : Heap} {x : Ex} {s : St}, base ≤ G.length → loopA body k (env, G) = some (x, s) → Kept base none G s.2
  | 0, env, G, x, s, hb, e => by simp [loopA] at e
  | k + 1, env, G, x, s, hb, e => by
    simp only [loopA] at e
    cases h1 : body (env, G) with
    | none => rw [h1] at e; cases e
    | some q =>
      obtain ⟨ex, s1⟩ := q
      have k1 := hbody hb h1
      rw [h1] at e
      cases ex with
      | normal => exact k1.trans (loopA_kept hbody (Nat.le_trans hb k1.len) e)
      | exit i => simp at e; obtain ⟨rfl, rfl⟩ := e; exact k1
      | ret => simp at e; obtain ⟨rfl, rfl⟩ := e; exact k1

theorem execA_kept {cl : Caller} (hcl : CallKept cl) {N n : Nat} : ∀ {c : Code} {env : List AVal} {G : Heap} {x : Ex} {s : St}, base ≤ G.length → execA C cl N base n c (env, G) = some (x, s) → Kept base none G s.2
  | .skip, env, G, x, s, hb, e => by simp [execA] at e; obtain ⟨rfl, rfl⟩ := e; exact Kept.refl _ _ _
  | .region id ops d, env, G, x, s, hb, e => by
    simp only [execA] at e
    split at e
    case h_2 => cases e
    rename_i s' hops
    simp at e; obtain ⟨rfl, rfl⟩ := e
    split at hops
    · exact drawA_kept hcl hb hops
    · exact opsA_kept hcl hb hops
  | .seq a b, env, G, x, s, hb, e => by
    simp only [execA] at e
    cases h1 : execA C cl N base n a (env, G) with
    | none => rw [h1] at e; cases e
    | some q =>
      obtain ⟨ex, s1⟩ := q
      have k1 := execA_kept hcl hb h1
      rw [h1] at e
      cases ex with
      | normal => exact k1.trans (execA_kept hcl (Nat.le_trans hb k1.len) e)
      | exit i => simp at e; obtain ⟨rfl, rfl⟩ := e; exact k1
      | ret => simp at e; obtain ⟨rfl, rfl⟩ := e; exact k1
  | .cond c a b, env, G, x, s, hb, e => by
    simp only [execA] at e
    split at e
    · exact execA_kept hcl hb e
    · exact execA_kept hcl hb e
    · cases e
  | .block id b, env, G, x, s, hb, e => by
    simp only [execA] at e
    cases h1 : execA C cl N base n b (env, G) with
    | none => rw [h1] at e; cases e
    | some q =>
      obtain ⟨ex, s1⟩ := q
      have k1 := execA_kept hcl hb h1
      rw [h1] at e
      cases ex with
      | normal => simp at e; obtain ⟨rfl, rfl⟩ := e; exact k1
      | ret => simp at e; obtain ⟨rfl, rfl⟩ := e; exact k1
      | exit i =>
        simp only at e
        split at e
        · simp at e; obtain ⟨rfl, rfl⟩ := e; exact k1
        · simp at e; obtain ⟨rfl, rfl⟩ := e; exact k1
  | .loop b, env, G, x, s, hb, e => by
    simp only [execA] at e
    exact loopA_kept (fun hb e => execA_kept hcl hb e) hb e
  | .exit id, env, G, x, s, hb, e => by simp [execA] at e; obtain ⟨rfl, rfl⟩ := e; exact Kept.refl _ _ _
  | .ret, env, G, x, s, hb, e => by simp [execA] at e; obtain ⟨rfl, rfl⟩ := e; exact Kept.refl _ _ _
  | .rangeFunc .., env, G, x, s, hb, e => by simp [execA] at e
  | .scope _, env, G, x, s, hb, e => by simp [execA] at e
  | .label _, env, G, x, s, hb, e => by simp [execA] at e
  | .goto _, env, G, x, s, hb, e => by simp [execA] at e
  | .refuse _, env, G, x, s, hb, e => by simp [execA] at e

theorem doCall_kept {rn : Caller} (hrn : CallKept rn) : CallKept (doCall C rn) := by
  intro base f args G v G' e hb
  unfold doCall at e
  split at e
  · split at e
    case h_2 => cases e
    simp at e; obtain ⟨rfl, rfl⟩ := e; exact Kept.refl _ _ _
  · split at e
    · split at e
      case h_2 => cases e
      split at e
      case h_2 => cases e
      simp at e; obtain ⟨rfl, rfl⟩ := e; exact Kept.refl _ _ _
    · have k := hrn _ _ _ _ _ _ e (Nat.le_refl _)
      exact ⟨k.len, fun l hl h => k.at_ l (by omega) h⟩
    · exact hrn _ _ _ _ _ _ e hb
    · cases e

theorem runA_kept : ∀ n, CallKept (runA C n)
  | 0 => fun base f args G v G' e => by simp [runA] at e
  | n + 1 => fun base f args G v G' e hb => by
    simp only [runA] at e
    split at e
    · cases e
    split at e
    · cases e
    split at e
    · cases e
    split at e
    · cases e
    · rename_i x s hne hx
      split at e
      case h_2 => cases e
      simp at e; obtain ⟨rfl, rfl⟩ := e
      exact execA_kept (doCall_kept (runA_kept n)) hb hx
    · cases e

/-- what a call does to the rows that there were, where it may turn none -/
theorem doCall_touch {rn : Caller} (hrn : CallKept rn) {f : FuncId} {args : List AVal} {v : AVal} (e : doCall C rn base f args G = some (v, G'))
    (ht : (match C.ext f with | some _ => some ([] : List Nat) | none => match C.kind f with | .full => none | _ => some []) = some []) : ∀ l, l < G.length → hget G' l = hget G l := by
  unfold doCall at e
  split at e
  · split at e
    case h_2 => cases e
    simp at e; obtain ⟨rfl, rfl⟩ := e; exact fun _ _ => rfl
  · rename_i hext
    split at e
    · split at e
      case h_2 => cases e
      split at e
      case h_2 => cases e
      simp at e; obtain ⟨rfl, rfl⟩ := e; exact fun _ _ => rfl
    · have k := hrn _ _ _ _ _ _ e (Nat.le_refl _)
      exact fun l hl => k.at_ l hl (by simp)
    · rename_i hk
      simp [hext, hk] at ht
    · cases e
end Go.Abs
