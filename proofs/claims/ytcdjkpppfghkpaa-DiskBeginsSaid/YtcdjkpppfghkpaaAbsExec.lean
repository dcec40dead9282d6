/-
  The machine of values against the model's: a body.
-/
import Derived.Test.YtcdjkpppfghkpaaAbsDraw5
set_option linter.unusedSimpArgs false
set_option linter.unusedVariables false
namespace Go.Abs
open Go

variable {ρ : Option Nat} {C : Cfg} {P : Program} {m : Nat → Option Nat} {Z : Nat → Prop} {h h' : Heap} {w : World} {base : Nat} {slot : Option Nat} {lb : Nat → Prop}

theorem execA_wp {cl : Caller} (hcl : CallOK P cl) (hN : Named P) (hP : C.P = P) (hm : P.follows .mixedOrders = true) (hF : CallFrame cl) (hK : CallKept cl) (hT : CallTouch C cl) {N n : Nat} : ∀ {c : Code} {m : Nat → Option Nat} {Z : Nat → Prop} {w : World} {h : Heap} {env : List AVal} {a : Act} {x : Ex} {s : St},
    HRel P m Z h w → EnvR P m Z w n env a.tmps → base ≤ h.length → execA C cl N base n c (env, h) = some (x, s) → c.wpIn (Fr ρ) 0 P (Ends P base n m Z h w a.defers x s) a w
  | .skip, m, Z, w, h, env, a, x, s, r, he, hb, e => by
    simp [execA] at e; obtain ⟨rfl, rfl⟩ := e
    exact wpIn_skip ⟨trivial, m, Z, he, rfl, r, Step.refl _ _ _ _ _ _ _⟩
  | .region id ops d, m, Z, w, h, env, a, x, s, r, he, hb, e => by
    simp only [execA] at e
    split at e
    case h_2 => cases e
    rename_i s' hops
    simp at e; obtain ⟨rfl, rfl⟩ := e
    cases d with
    | true =>
      simp only [if_true] at hops
      exact drawA_wp hcl hN hP hm hF hK hT r he hb hops fun m' Z' w' a' h1 h2 h3 h4 => ⟨trivial, m', Z', h1, h2, h3, h4⟩
    | false =>
      simp only [Bool.false_eq_true, if_false] at hops
      exact wpIn_region_list (opsA_wp hcl hN hP r he hb hops fun m' Z' w' a' h1 h2 h3 h4 => ⟨trivial, m', Z', h1, h2, h3, h4⟩)
  | .seq x1 x2, m, Z, w, h, env, a, x, s, r, he, hb, e => by
    simp only [execA] at e
    cases h1 : execA C cl N base n x1 (env, h) with
    | none => rw [h1] at e; cases e
    | some q =>
      obtain ⟨ex, s1⟩ := q
      have ih1 := execA_wp hcl hN hP hm hF hK hT r he hb h1
      refine wpIn_seq (Go.wpIn_mono ih1 fun e' a' w' hq => ?_)
      rw [h1] at e
      cases ex with
      | normal =>
        simp only at e
        obtain ⟨hx, m', Z', k1, k2, k3, k4⟩ := hq
        cases e' <;> first | exact hx.elim | skip
        have := execA_wp hcl hN hP hm hF hK hT (m := m') (Z := Z') (w := w') (h := s1.2) (env := s1.1) k3 k1 (Nat.le_trans hb k4.len) e
        rw [k2] at this
        exact Go.wpIn_mono this fun e'' a'' w'' hq' => hq'.trans k4
      | exit i =>
        simp at e; obtain ⟨rfl, rfl⟩ := e
        have hx := hq.1
        cases e' <;> first | exact hx.elim | exact hq
      | ret =>
        simp at e; obtain ⟨rfl, rfl⟩ := e
        have hx := hq.1
        cases e' <;> first | exact hx.elim | exact hq
  | .cond c x1 x2, m, Z, w, h, env, a, x, s, r, he, hb, e => by
    simp only [execA] at e
    split at e
    · rename_i hc
      have hv := evalA_V he hc
      simp only [V] at hv
      exact wpIn_cond_true hv (execA_wp hcl hN hP hm hF hK hT r he hb e)
    · rename_i hc
      have hv := evalA_V he hc
      simp only [V] at hv
      exact wpIn_cond_false hv (execA_wp hcl hN hP hm hF hK hT r he hb e)
    · cases e
  | .block id b, m, Z, w, h, env, a, x, s, r, he, hb, e => by
    simp only [execA] at e
    cases h1 : execA C cl N base n b (env, h) with
    | none => rw [h1] at e; cases e
    | some q =>
      obtain ⟨ex, s1⟩ := q
      have ih1 := execA_wp hcl hN hP hm hF hK hT r he hb h1
      refine wpIn_block (Go.wpIn_mono ih1 fun e' a' w' hq => ?_)
      rw [h1] at e
      have hx := hq.1
      cases ex with
      | normal =>
        simp at e; obtain ⟨rfl, rfl⟩ := e
        cases e' <;> first | exact hx.elim | exact hq
      | ret =>
        simp at e; obtain ⟨rfl, rfl⟩ := e
        cases e' <;> first | exact hx.elim | exact hq
      | exit i =>
        cases e' <;> first | exact hx.elim | skip
        rename_i j
        obtain rfl : i = j := hx
        simp only at e
        simp only [Exit.inBlock]
        split at e
        · rename_i hi
          simp at e; obtain ⟨rfl, rfl⟩ := e
          rw [if_pos hi]
          exact ⟨trivial, hq.2⟩
        · rename_i hi
          simp at e; obtain ⟨rfl, rfl⟩ := e
          rw [if_neg hi]
          exact hq
  | .loop b, m, Z, w, h, env, a, x, s, r, he, hb, e => by
    simp only [execA] at e
    refine wpIn_loop_rounds N ?_
    have key : ∀ (k : Nat) {m : Nat → Option Nat} {Z : Nat → Prop} {w : World} {h : Heap} {env : List AVal} {a : Act}, HRel P m Z h w → EnvR P m Z w n env a.tmps → base ≤ h.length →
        loopA (execA C cl N base n b) k (env, h) = some (x, s) → Code.roundsIn (Fr ρ) 0 P b (Ends P base n m Z h w a.defers x s) k a w := by
      intro k
      induction k with
      | zero => intro m Z w h env a r he hb e; simp [loopA] at e
      | succ k ih =>
        intro m Z w h env a r he hb e
        simp only [loopA] at e
        rw [roundsIn_succ]
        cases h1 : execA C cl N base n b (env, h) with
        | none => rw [h1] at e; cases e
        | some q =>
          obtain ⟨ex, s1⟩ := q
          have ih1 := execA_wp hcl hN hP hm hF hK hT r he hb h1
          refine Go.wpIn_mono ih1 fun e' a' w' hq => ?_
          rw [h1] at e
          have hx := hq.1
          cases ex with
          | normal =>
            obtain ⟨_, m', Z', k1, k2, k3, k4⟩ := hq
            cases e' <;> first | exact hx.elim | skip
            have := ih (m := m') (Z := Z') (w := w') (h := s1.2) (env := s1.1) (a := a') k3 k1 (Nat.le_trans hb k4.len) e
            rw [k2] at this
            exact rounds_mono (fun e'' a'' w'' hq' => hq'.trans k4) this
          | ret =>
            simp at e; obtain ⟨rfl, rfl⟩ := e
            cases e' <;> first | exact hx.elim | exact hq
          | exit i =>
            simp at e; obtain ⟨rfl, rfl⟩ := e
            cases e' <;> first | exact hx.elim | exact hq
    exact key N r he hb e
  | .exit id, m, Z, w, h, env, a, x, s, r, he, hb, e => by
    simp [execA] at e; obtain ⟨rfl, rfl⟩ := e
    exact wpIn_exit ⟨rfl, m, Z, he, rfl, r, Step.refl _ _ _ _ _ _ _⟩
  | .ret, m, Z, w, h, env, a, x, s, r, he, hb, e => by
    simp [execA] at e; obtain ⟨rfl, rfl⟩ := e
    exact wpIn_ret ⟨trivial, m, Z, he, rfl, r, Step.refl _ _ _ _ _ _ _⟩
  | .rangeFunc .., m, Z, w, h, env, a, x, s, r, he, hb, e => by simp [execA] at e
  | .scope _, m, Z, w, h, env, a, x, s, r, he, hb, e => by simp [execA] at e
  | .label _, m, Z, w, h, env, a, x, s, r, he, hb, e => by simp [execA] at e
  | .goto _, m, Z, w, h, env, a, x, s, r, he, hb, e => by simp [execA] at e
  | .refuse _, m, Z, w, h, env, a, x, s, r, he, hb, e => by simp [execA] at e
end Go.Abs
