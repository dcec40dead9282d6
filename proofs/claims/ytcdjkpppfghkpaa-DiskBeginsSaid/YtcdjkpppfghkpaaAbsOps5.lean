/-
  Operations of the machine of values against the model's: two operands; conversions.
-/
import Derived.Test.YtcdjkpppfghkpaaAbsOps4
set_option linter.unusedSimpArgs false
set_option linter.unusedVariables false
namespace Go.Abs
open Go

variable {P : Program} {m : Nat → Option Nat} {Z : Nat → Prop} {h h' : Heap} {w : World} {base : Nat} {slot : Option Nat} {lb : Nat → Prop}

def isAg : Value → Bool
  | .agg _ => true
  | _ => false

/-- the look ahead of an '==' lets our operands by -/
theorem run_eqGuard {op : BinOp} {t : TypeId} {x y : AVal} {vx vy : Value} (o1 o2 : Operand) (hx : V P m Z w x vx) (hy : V P m Z w y vy)
    (hg : (op = .eql ∨ op = .neq) → aggGuard P t x y = false) : (eqGuard op t o1 o2 vx vy).run P w = .ok () w := by
  cases x with
  | agg xs =>
    simp only [V] at hx; obtain ⟨us, rfl, hx⟩ := hx
    cases y with
    | agg ys =>
      simp only [V] at hy; obtain ⟨vs, rfl, hy⟩ := hy
      cases op <;> first
        | rfl
        | (have hgg := hg (by simp); simp only [aggGuard] at hgg; simp [eqGuard, hgg])
    | undef | bool _ | int _ _ | str _ | nilFunc => simp only [V] at hy; subst hy; cases op <;> rfl
    | ptr l => cases l with
      | none => simp only [V] at hy; subst hy; cases op <;> rfl
      | some p => simp only [V] at hy; obtain ⟨_, _, rfl⟩ := hy; cases op <;> rfl
    | cref _ => simp only [V] at hy; obtain ⟨_, _, rfl, _⟩ := hy; cases op <;> rfl
    | own _ _ _ _ => simp only [V] at hy; obtain ⟨_, _, _, _, rfl, _⟩ := hy; cases op <;> rfl
    | lst _ _ => simp only [V] at hy; obtain ⟨_, _, rfl, _⟩ := hy; cases op <;> rfl
    | func _ _ _ => simp only [V] at hy; obtain ⟨_, _, rfl, _⟩ := hy; cases op <;> rfl
    | yld _ => simp only [V] at hy; obtain ⟨_, _, rfl⟩ := hy; cases op <;> rfl
    | tup _ => simp only [V] at hy; obtain ⟨_, rfl, _⟩ := hy; cases op <;> rfl
  | undef | bool _ | int _ _ | str _ | nilFunc => simp only [V] at hx; subst hx; cases op <;> rfl
  | ptr l => cases l with
    | none => simp only [V] at hx; subst hx; cases op <;> rfl
    | some p => simp only [V] at hx; obtain ⟨_, _, rfl⟩ := hx; cases op <;> rfl
  | cref _ => simp only [V] at hx; obtain ⟨_, _, rfl, _⟩ := hx; cases op <;> rfl
  | own _ _ _ _ => simp only [V] at hx; obtain ⟨_, _, _, _, rfl, _⟩ := hx; cases op <;> rfl
  | lst _ _ => simp only [V] at hx; obtain ⟨_, _, rfl, _⟩ := hx; cases op <;> rfl
  | func _ _ _ => simp only [V] at hx; obtain ⟨_, _, rfl, _⟩ := hx; cases op <;> rfl
  | yld _ => simp only [V] at hx; obtain ⟨_, _, rfl⟩ := hx; cases op <;> rfl
  | tup _ => simp only [V] at hx; obtain ⟨_, rfl, _⟩ := hx; cases op <;> rfl

theorem V_int (k : IntKind) (n : Int) : V P m Z w (.int k n) (.int k n) := by simp only [V]
theorem V_bool (b : Bool) : V P m Z w (.bool b) (.bool b) := by simp only [V]

def bothNum : Value → Value → Bool
  | .int _ _, .int _ _ => true
  | .float _ _, .float _ _ => true
  | .complex _ _ _, .complex _ _ _ => true
  | .string _, .string _ => true
  | _, _ => false

theorem binOp_eql (t : TypeId) (va vb : Value) (hb : bothNum va vb = false) : binOp .eql t va vb = (do pure (.bool (← Op.equal t va vb))) := by
  cases va <;> cases vb <;> first | rfl | cases hb
theorem binOp_neq (t : TypeId) (va vb : Value) (hb : bothNum va vb = false) : binOp .neq t va vb = (do pure (.bool (!(← Op.equal t va vb)))) := by
  cases va <;> cases vb <;> first | rfl | cases hb

theorem not_both {x y : AVal} {va vb : Value} (ha : V P m Z w x va) (hb : V P m Z w y vb) (h1 : ∀ k a k' b, x = .int k a → y = .int k' b → False) (h2 : ∀ a b, x = .str a → y = .str b → False) :
    bothNum va vb = false := by
  cases x with
  | int k n =>
    simp only [V] at ha; subst ha
    cases y with
    | int _ _ => exact (h1 _ _ _ _ rfl rfl).elim
    | undef | bool _ | str _ | nilFunc => simp only [V] at hb; subst hb; rfl
    | ptr l => cases l with
      | none => simp only [V] at hb; subst hb; rfl
      | some p => simp only [V] at hb; obtain ⟨_, _, rfl⟩ := hb; rfl
    | cref _ => simp only [V] at hb; obtain ⟨_, _, rfl, _⟩ := hb; rfl
    | own _ _ _ _ => simp only [V] at hb; obtain ⟨_, _, _, _, rfl, _⟩ := hb; rfl
    | lst _ _ => simp only [V] at hb; obtain ⟨_, _, rfl, _⟩ := hb; rfl
    | func _ _ _ => simp only [V] at hb; obtain ⟨_, _, rfl, _⟩ := hb; rfl
    | yld _ => simp only [V] at hb; obtain ⟨_, _, rfl⟩ := hb; rfl
    | agg _ => simp only [V] at hb; obtain ⟨_, rfl, _⟩ := hb; rfl
    | tup _ => simp only [V] at hb; obtain ⟨_, rfl, _⟩ := hb; rfl
  | str s =>
    simp only [V] at ha; subst ha
    cases y with
    | str _ => exact (h2 _ _ rfl rfl).elim
    | undef | bool _ | int _ _ | nilFunc => simp only [V] at hb; subst hb; rfl
    | ptr l => cases l with
      | none => simp only [V] at hb; subst hb; rfl
      | some p => simp only [V] at hb; obtain ⟨_, _, rfl⟩ := hb; rfl
    | cref _ => simp only [V] at hb; obtain ⟨_, _, rfl, _⟩ := hb; rfl
    | own _ _ _ _ => simp only [V] at hb; obtain ⟨_, _, _, _, rfl, _⟩ := hb; rfl
    | lst _ _ => simp only [V] at hb; obtain ⟨_, _, rfl, _⟩ := hb; rfl
    | func _ _ _ => simp only [V] at hb; obtain ⟨_, _, rfl, _⟩ := hb; rfl
    | yld _ => simp only [V] at hb; obtain ⟨_, _, rfl⟩ := hb; rfl
    | agg _ => simp only [V] at hb; obtain ⟨_, rfl, _⟩ := hb; rfl
    | tup _ => simp only [V] at hb; obtain ⟨_, rfl, _⟩ := hb; rfl
  | undef | bool _ | nilFunc => simp only [V] at ha; subst ha; rfl
  | ptr l => cases l with
    | none => simp only [V] at ha; subst ha; rfl
    | some p => simp only [V] at ha; obtain ⟨_, _, rfl⟩ := ha; rfl
  | cref _ => simp only [V] at ha; obtain ⟨_, _, rfl, _⟩ := ha; rfl
  | own _ _ _ _ => simp only [V] at ha; obtain ⟨_, _, _, _, rfl, _⟩ := ha; rfl
  | lst _ _ => simp only [V] at ha; obtain ⟨_, _, rfl, _⟩ := ha; rfl
  | func _ _ _ => simp only [V] at ha; obtain ⟨_, _, rfl, _⟩ := ha; rfl
  | yld _ => simp only [V] at ha; obtain ⟨_, _, rfl⟩ := ha; rfl
  | agg _ => simp only [V] at ha; obtain ⟨_, rfl, _⟩ := ha; rfl
  | tup _ => simp only [V] at ha; obtain ⟨_, rfl, _⟩ := ha; rfl

theorem run_binOp {op : BinOp} {t : TypeId} {a b x : AVal} {va vb : Value} (e : binA P op t a b = some x) (ha : V P m Z w a va) (hb : V P m Z w b vb) :
    ∃ u, (binOp op t va vb).run P w = .ok u w ∧ V P m Z w x u := by
  unfold binA at e
  split at e
  · rename_i k a k' b
    simp only [V] at ha hb; subst ha; subst hb
    split at e <;> cases e
    rename_i hn
    exact ⟨_, by simp only [binOp, Op.shift]; rw [if_neg hn]; rfl, V_int _ _⟩
  · rename_i k a k' b
    simp only [V] at ha hb; subst ha; subst hb
    split at e <;> cases e
    rename_i hn
    exact ⟨_, by simp only [binOp, Op.shift]; rw [if_neg hn]; rfl, V_int _ _⟩
  · rename_i k a k' b _ _
    simp only [V] at ha hb; subst ha; subst hb
    split at e
    case isFalse => cases e
    rename_i hk; subst hk
    split at e
    case h_4 =>
      by_cases hn : b = 0
      · rw [if_pos hn] at e; cases e
      · rw [if_neg hn] at e; cases e; exact ⟨_, by simp [binOp, Op.intDiv, hn], V_int _ _⟩
    case h_5 =>
      by_cases hn : b = 0
      · rw [if_pos hn] at e; cases e
      · rw [if_neg hn] at e; cases e; exact ⟨_, by simp [binOp, Op.intDiv, hn], V_int _ _⟩
    all_goals cases e
    all_goals first
      | exact ⟨_, by simp [binOp, Op.intArith, Op.intBits, Op.intCmp], V_int _ _⟩
      | exact ⟨_, by simp [binOp, Op.intArith, Op.intBits, Op.intCmp], V_bool _⟩
  · rename_i a b
    simp only [V] at ha hb; subst ha; subst hb
    split at e
    · split at e <;> cases e
      rename_i hl
      refine ⟨.string ⟨(a ++ b).toArray⟩, ?_, by simp only [V]⟩
      have hs : ¬ (((⟨a.toArray⟩ : ByteArray).size + (⟨b.toArray⟩ : ByteArray).size : Nat) : Int) > IntKind.i64.max := by
        have h1 : (⟨a.toArray⟩ : ByteArray).size = a.length := rfl
        have h2 : (⟨b.toArray⟩ : ByteArray).size = b.length := rfl
        have h3 : IntKind.i64.max = 9223372036854775807 := by decide
        rw [h1, h2, h3]; omega
      have hap : (⟨a.toArray⟩ : ByteArray) ++ (⟨b.toArray⟩ : ByteArray) = ⟨(a ++ b).toArray⟩ := by
        have : ((⟨a.toArray⟩ : ByteArray) ++ (⟨b.toArray⟩ : ByteArray)).data = a.toArray ++ b.toArray := ByteArray.data_append
        cases hh : (⟨a.toArray⟩ : ByteArray) ++ (⟨b.toArray⟩ : ByteArray) with
        | mk d => rw [hh] at this; simp only at this; rw [this]; simp
      simp only [binOp, Op.stringOp]
      rw [if_neg hs, hap]
      rfl
    all_goals first
      | (cases e; refine ⟨.bool _, ?_, V_bool _⟩; simp [binOp, Op.stringOp, bytesLess]; done)
      | cases e
  · rename_i x y h1 h2
    split at e
    case isFalse => cases e
    rename_i hg
    simp only [Option.map_eq_some_iff] at e
    obtain ⟨r, h3, rfl⟩ := e
    have hq := run_equal h3 ha hb
    refine ⟨.bool r, ?_, V_bool r⟩
    rw [binOp_eql t va vb (not_both ha hb h1 h2)]
    simp [hq]
  · rename_i x y h1 h2
    split at e
    case isFalse => cases e
    rename_i hg
    simp only [Option.map_eq_some_iff] at e
    obtain ⟨r, h3, rfl⟩ := e
    have hq := run_equal h3 ha hb
    refine ⟨.bool (!r), ?_, V_bool _⟩
    rw [binOp_neq t va vb (not_both ha hb h1 h2)]
    simp [hq]
  · cases e
end Go.Abs
