import Derived.Test.YtcdjkpppfghkpaaAbsDraw5
section
/-
  The machine of values, with ranges over functions: the loops under way lie beside the heap. (Definitions; nothing is claimed here.)
-/
namespace Go.Abs
open Go

/-- a loop under way: its place (a row that stays empty), the places as they were when it began, its parts; how a round has left it -/
structure LRec where
  loc : Nat
  n : Nat
  env : List AVal
  ps : List Nat
  assign : Code
  body : Code
  jump : Option Ex

inductive Callee where
  | fn (f : FuncId)
  | yld (l : Nat)

abbrev LS := List LRec
abbrev LSt := List AVal × Heap × LS
abbrev LCaller := Nat → Callee → List AVal → Heap → LS → Option (AVal × Heap × LS)

/-- a call that sees no loop -/
def plainC (cl : LCaller) : Caller := fun base f args h => match cl base (.fn f) args h [] with
  | some (v, h', _) => some (v, h')
  | none => none

def opL (C : Cfg) (cl : LCaller) (base : Nat) (env : List AVal) (h : Heap) (L : LS) (op : Op) : Option (AVal × Heap × LS) :=
  let other := match opA C (plainC cl) base none env h op with
    | some (v, h') => some (v, h', L)
    | none => none
  match op with
  | .call c => match c.callee with
    | .value f => match evalA env f with
      | some (.func g first captured) => match evalsA env c.args.toList with
        | some args => if bodied C.P g = true then cl base (.fn g) (first ++ args ++ captured) h L else none
        | none => none
      | some (.yld l) => match evalsA env c.args.toList with
        | some args => cl base (.yld l) args h L
        | none => none
      | _ => none
    | _ => other
  | _ => other

def opsL (C : Cfg) (cl : LCaller) (base n : Nat) (all : List Oper) : List Oper → LSt → Option LSt
  | [], s => some s
  | o :: rest, (env, h, L) =>
    if wantedA all env o = true then
      match opL C cl base env h L o.op with
      | some (v, h', L') => match putA n env o.dst v with
        | some env' => opsL C cl base n all rest (env', h', L')
        | none => none
      | none => none
    else match putA n env o.dst .undef with
      | some env' => opsL C cl base n all rest (env', h, L)
      | none => none

def loopL (body : LSt → Option (Ex × LSt)) : Nat → LSt → Option (Ex × LSt)
  | 0, _ => none
  | n + 1, s => match body s with
    | some (.normal, s') => loopL body n s'
    | r => r

def putPs (n : Nat) : List AVal → List Nat → List AVal → Option (List AVal)
  | env, [], [] => some env
  | env, p :: ps, v :: vs => if p < n then putPs n (setX env p v) ps vs else none
  | _, _, _ => none

def execL (C : Cfg) (cl : LCaller) (N base n : Nat) (inR : Bool) : Code → LSt → Option (Ex × LSt)
  | .skip, s => some (.normal, s)
  | .region _ ops d, (env, h, L) =>
    if d then match drawA C (plainC cl) base n ops.toList (env, h) with
      | some (env', h') => some (.normal, (env', h', L))
      | none => none
    else match opsL C cl base n ops.toList ops.toList (env, h, L) with
      | some s' => some (.normal, s')
      | none => none
  | .seq a b, s => match execL C cl N base n inR a s with
    | some (.normal, s') => execL C cl N base n inR b s'
    | r => r
  | .cond c a b, s => match evalA s.1 c with
    | some (.bool true) => execL C cl N base n inR a s
    | some (.bool false) => execL C cl N base n inR b s
    | _ => none
  | .block id b, s => match execL C cl N base n inR b s with
    | some (.exit i, s') => if i = id then some (.normal, s') else some (.exit i, s')
    | r => r
  | .loop b, s => loopL (execL C cl N base n inR b) N s
  | .exit id, s => some (.exit id, s)
  | .ret, s => some (.ret, s)
  | .rangeFunc g ps assign body, (env, h, L) =>
    if inR then none else match evalA env g with
    | some (.func f first captured) =>
      if bodied C.P f = true then
        match cl base (.fn f) (first ++ [.yld h.length] ++ captured) (h ++ [none]) (⟨h.length, n, env, ps.toList, assign, body, none⟩ :: L) with
        | some (_, h', r :: L') => match r.jump with
          | none => some (.normal, (env, h', L'))
          | some .normal => none
          | some x => some (x, (env, h', L'))
        | _ => none
      else none
    | _ => none
  | _, _ => none

def doCallL (C : Cfg) (rn : LCaller) : LCaller := fun base g args h L => match g with
  | .yld l => rn base (.yld l) args h L
  | .fn f => match C.ext f with
    | some g => match g args h with
      | some v => some (v, h, L)
      | none => none
    | none => match C.kind f with
      | .pure => match rn h.length (.fn f) args h [] with
        | some (v, h', _) => match frz C.P 9 true h.length h' v with
          | some u => some (u, h, L)
          | none => none
        | none => none
      | .grow => match rn h.length (.fn f) args h [] with
        | some (v, h', _) => some (v, h', L)
        | none => none
      | .full => rn base (.fn f) args h L
      | .closed => match mapO (frz C.P 9 true 0 []) args with
        | some as => match rn 0 (.fn f) as [] [] with
          | some (v, h', _) => match frz C.P 9 true 0 h' v with
            | some u => some (u, h, L)
            | none => none
          | none => none
        | none => match mapO (frz C.P 9 true 0 h) args with
          | some as => match rn 0 (.fn f) as [] [] with
            | some (v, _, _) => if flatR v = true then some (v, h, L) else none
            | none => none
          | none => none

def runL (C : Cfg) : Nat → LCaller
  | 0 => fun _ _ _ _ _ => none
  | k + 1 => fun base g args h L => match g with
    | .fn f => match C.P.funcs[f]? with
      | none => none
      | some fn => match fn.body with
        | none => none
        | some c => if fn.ntmps < args.length then none else match execL C (doCallL C (runL C k)) k base fn.ntmps false c (args, h, L) with
          | some (.exit _, _) => none
          | some (_, (env, h', L')) => match finishA C.P fn (env, h') with
            | some v => some (v, h', L')
            | none => none
          | none => none
    | .yld l => match L with
      | [] => none
      | r :: L0 => if r.loc = l ∧ r.jump.isNone = true then match putPs r.n r.env r.ps args with
        | none => none
        | some env => match execL C (doCallL C (runL C k)) k base r.n true r.assign (env, h, L0) with
          | some (.normal, s1) => match execL C (doCallL C (runL C k)) k base r.n true r.body s1 with
            | some (.normal, (_, h2, L2)) => some (.bool true, h2, { r with jump := none } :: L2)
            | some (x, (_, h2, L2)) => some (.bool false, h2, { r with jump := some x } :: L2)
            | none => none
          | _ => none
        else none
end Go.Abs
end
section
/-
  The machine with loops: it looks at no row that it does not name; it leaves alone the rows below its base.
-/
set_option linter.unusedSimpArgs false
set_option linter.unusedVariables false
namespace Go.Abs
open Go

variable {C : Cfg} {P : Program} {F : Nat → Option Blk} {G G' X : Heap} {base : Nat} {L L' : LS}

def LFrame (cl : LCaller) : Prop := ∀ base g args G L v G' L', cl base g args G L = some (v, G', L') → ∀ F X, Beside F G X → ∃ X', cl base g args X L = some (v, X', L') ∧ Beside F G' X'

theorem plainC_frame {cl : LCaller} (h : LFrame cl) : CallFrame (plainC cl) := by
  intro base f args G v G' e F X r
  unfold plainC at e ⊢
  split at e
  case h_2 => cases e
  rename_i v1 h1 L1 hc
  simp at e; obtain ⟨rfl, rfl⟩ := e
  obtain ⟨X', k1, k2⟩ := h _ _ _ _ _ _ _ _ hc F X r
  exact ⟨X', by rw [k1], k2⟩

theorem opL_frame {cl : LCaller} (hcl : LFrame cl) (r : Beside F G X) {env : List AVal} {op : Op} {v : AVal} (e : opL C cl base env G L op = some (v, G', L')) :
    ∃ X', opL C cl base env X L op = some (v, X', L') ∧ Beside F G' X' := by
  have hoth : ∀ {v G' L'}, (match opA C (plainC cl) base none env G op with | some (v, h') => some (v, h', L) | none => none) = some (v, G', L') →
      ∃ X', (match opA C (plainC cl) base none env X op with | some (v, h') => some (v, h', L) | none => none) = some (v, X', L') ∧ Beside F G' X' := by
    intro v G' L' e
    split at e
    case h_2 => cases e
    rename_i v1 h1 ho
    simp at e; obtain ⟨rfl, rfl, rfl⟩ := e
    obtain ⟨X', k1, k2⟩ := opA_frame (plainC_frame hcl) r (fun s hs => by cases hs) ho
    exact ⟨X', by rw [k1], k2⟩
  unfold opL at e ⊢
  simp only at e ⊢
  split at e
  · split at e
    · split at e
      · split at e
        case h_2 => cases e
        split at e
        case isFalse => cases e
        rename_i hb
        rw [if_pos hb]
        exact hcl _ _ _ _ _ _ _ _ e F X r
      · split at e
        case h_2 => cases e
        exact hcl _ _ _ _ _ _ _ _ e F X r
      · cases e
    · exact hoth e
  · exact hoth e

theorem opsL_frame {cl : LCaller} (hcl : LFrame cl) {n : Nat} {all : List Oper} : ∀ {l : List Oper} {env : List AVal} {G X : Heap} {L : LS} {s : LSt}, Beside F G X → opsL C cl base n all l (env, G, L) = some s →
    ∃ X', opsL C cl base n all l (env, X, L) = some (s.1, X', s.2.2) ∧ Beside F s.2.1 X'
  | [], env, G, X, L, s, r, e => by simp [opsL] at e; subst e; exact ⟨X, rfl, r⟩
  | o :: rest, env, G, X, L, s, r, e => by
    simp only [opsL] at e ⊢
    split at e
    · rename_i hw
      rw [if_pos hw]
      split at e
      case h_2 => cases e
      rename_i v G1 L1 hop
      obtain ⟨X1, k1, k2⟩ := opL_frame hcl r hop
      rw [k1]
      simp only
      split at e
      case h_2 => cases e
      rename_i env' hp
      exact opsL_frame hcl k2 e
    · rename_i hw
      rw [if_neg hw]
      split at e
      case h_2 => cases e
      rename_i env' hp
      exact opsL_frame hcl r e

theorem loopL_frame {body : LSt → Option (Ex × LSt)} (hb : ∀ {env G X L x s}, Beside F G X → body (env, G, L) = some (x, s) → ∃ X', body (env, X, L) = some (x, (s.1, X', s.2.2)) ∧ Beside F s.2.1 X') :
    ∀ {k : Nat} {env : List AVal} {G X : Heap} {L : LS} {x : Ex} {s : LSt}, Beside F G X → loopL body k (env, G, L) = some (x, s) → ∃ X', loopL body k (env, X, L) = some (x, (s.1, X', s.2.2)) ∧ Beside F s.2.1 X'
  | 0, env, G, X, L, x, s, r, e => by simp [loopL] at e
  | k + 1, env, G, X, L, x, s, r, e => by
    simp only [loopL] at e ⊢
    cases h1 : body (env, G, L) with
    | none => rw [h1] at e; cases e
    | some q =>
      obtain ⟨ex, env1, G1, L1⟩ := q
      obtain ⟨X1, k1, k2⟩ := hb r h1
      rw [h1] at e
      rw [k1]
      cases ex with
      | normal => exact loopL_frame hb k2 e
      | exit i => simp at e; obtain ⟨rfl, rfl⟩ := e; exact ⟨X1, rfl, k2⟩
      | ret => simp at e; obtain ⟨rfl, rfl⟩ := e; exact ⟨X1, rfl, k2⟩

theorem execL_frame {cl : LCaller} (hcl : LFrame cl) {N n : Nat} {inR : Bool} : ∀ {c : Code} {env : List AVal} {G X : Heap} {L : LS} {x : Ex} {s : LSt}, Beside F G X → execL C cl N base n inR c (env, G, L) = some (x, s) →
    ∃ X', execL C cl N base n inR c (env, X, L) = some (x, (s.1, X', s.2.2)) ∧ Beside F s.2.1 X'
  | .skip, env, G, X, L, x, s, r, e => by simp [execL] at e; obtain ⟨rfl, rfl⟩ := e; exact ⟨X, rfl, r⟩
  | .region id ops d, env, G, X, L, x, s, r, e => by
    simp only [execL] at e ⊢
    cases d with
    | true =>
      simp only [if_true] at e ⊢
      split at e
      case h_2 => cases e
      rename_i env' h' hd
      simp at e; obtain ⟨rfl, rfl⟩ := e
      obtain ⟨X', k1, k2⟩ := drawA_frame (plainC_frame hcl) r hd
      exact ⟨X', by rw [k1], k2⟩
    | false =>
      simp only [Bool.false_eq_true, if_false] at e ⊢
      split at e
      case h_2 => cases e
      rename_i s' hops
      simp at e; obtain ⟨rfl, rfl⟩ := e
      obtain ⟨X', k1, k2⟩ := opsL_frame hcl r hops
      exact ⟨X', by rw [k1], k2⟩
  | .seq a b, env, G, X, L, x, s, r, e => by
    simp only [execL] at e ⊢
    cases h1 : execL C cl N base n inR a (env, G, L) with
    | none => rw [h1] at e; cases e
    | some q =>
      obtain ⟨ex, env1, G1, L1⟩ := q
      obtain ⟨X1, k1, k2⟩ := execL_frame hcl r h1
      rw [h1] at e
      rw [k1]
      cases ex with
      | normal => exact execL_frame hcl k2 e
      | exit i => simp at e; obtain ⟨rfl, rfl⟩ := e; exact ⟨X1, rfl, k2⟩
      | ret => simp at e; obtain ⟨rfl, rfl⟩ := e; exact ⟨X1, rfl, k2⟩
  | .cond c a b, env, G, X, L, x, s, r, e => by
    simp only [execL] at e ⊢
    split at e
    · rename_i hc; exact execL_frame hcl r e
    · rename_i hc; exact execL_frame hcl r e
    · cases e
  | .block id b, env, G, X, L, x, s, r, e => by
    simp only [execL] at e ⊢
    cases h1 : execL C cl N base n inR b (env, G, L) with
    | none => rw [h1] at e; cases e
    | some q =>
      obtain ⟨ex, env1, G1, L1⟩ := q
      obtain ⟨X1, k1, k2⟩ := execL_frame hcl r h1
      rw [h1] at e
      rw [k1]
      cases ex with
      | normal => simp at e; obtain ⟨rfl, rfl⟩ := e; exact ⟨X1, rfl, k2⟩
      | ret => simp at e; obtain ⟨rfl, rfl⟩ := e; exact ⟨X1, rfl, k2⟩
      | exit i =>
        simp only at e ⊢
        split at e
        · rename_i hi
          simp at e; obtain ⟨rfl, rfl⟩ := e
          exact ⟨X1, if_pos hi, k2⟩
        · rename_i hi
          simp at e; obtain ⟨rfl, rfl⟩ := e
          exact ⟨X1, if_neg hi, k2⟩
  | .loop b, env, G, X, L, x, s, r, e => by
    simp only [execL] at e ⊢
    exact loopL_frame (fun r e => execL_frame hcl r e) r e
  | .exit id, env, G, X, L, x, s, r, e => by simp [execL] at e; obtain ⟨rfl, rfl⟩ := e; exact ⟨X, rfl, r⟩
  | .ret, env, G, X, L, x, s, r, e => by simp [execL] at e; obtain ⟨rfl, rfl⟩ := e; exact ⟨X, rfl, r⟩
  | .rangeFunc g ps assign body, env, G, X, L, x, s, r, e => by
    simp only [execL] at e ⊢
    split at e
    · cases e
    rename_i hin
    rw [if_neg hin]
    split at e
    case h_2 => cases e
    rename_i f first captured hg
    split at e
    case isFalse => cases e
    rename_i hb
    rw [if_pos hb]
    split at e
    case h_2 => cases e
    rename_i v1 h' rc L1 hc
    obtain ⟨X1, k1, k2⟩ := hcl _ _ _ _ _ _ _ _ hc F (X ++ [none]) (r.push none)
    rw [r.len, k1]
    simp only
    split at e
    · rename_i hj
      simp at e; obtain ⟨rfl, rfl⟩ := e
      exact ⟨X1, rfl, k2⟩
    · cases e
    · rename_i x' hx hj
      simp at e; obtain ⟨rfl, rfl⟩ := e
      refine ⟨X1, ?_, k2⟩
      cases x' with
      | normal => exact (hx rfl).elim
      | exit i => rfl
      | ret => rfl
  | .scope _, env, G, X, L, x, s, r, e => by simp [execL] at e
  | .label _, env, G, X, L, x, s, r, e => by simp [execL] at e
  | .goto _, env, G, X, L, x, s, r, e => by simp [execL] at e
  | .refuse _, env, G, X, L, x, s, r, e => by simp [execL] at e

theorem doCallL_frame {rn : LCaller} (hE : ExtFrame C) (hrn : LFrame rn) : LFrame (doCallL C rn) := by
  intro base g args G L v G' L' e F X r
  unfold doCallL at e ⊢
  split at e
  · exact hrn _ _ _ _ _ _ _ _ e F X r
  rename_i f
  split at e
  · rename_i g hg
    split at e
    case h_2 => cases e
    rename_i y hy
    simp at e; obtain ⟨rfl, rfl, rfl⟩ := e
    simp only [hg, hE f g hg args G y hy F X r]
    exact ⟨X, rfl, r⟩
  · rename_i hg
    try simp only [hg]
    split at e
    · rename_i hk
      try simp only [hk]
      split at e
      case h_2 => cases e
      rename_i y G1 L1 hr
      split at e
      case h_2 => cases e
      rename_i u hu
      simp at e; obtain ⟨rfl, rfl, rfl⟩ := e
      obtain ⟨X1, k1, k2⟩ := hrn _ _ _ _ _ _ _ _ hr F X r
      have hl := r.len
      rw [hl, k1]
      simp only [frz_frame k2 9 hu]
      exact ⟨X, rfl, r⟩
    · rename_i hk
      try simp only [hk]
      split at e
      case h_2 => cases e
      rename_i y G1 L1 hr
      simp at e; obtain ⟨rfl, rfl, rfl⟩ := e
      obtain ⟨X1, k1, k2⟩ := hrn _ _ _ _ _ _ _ _ hr F X r
      rw [r.len, k1]
      exact ⟨X1, rfl, k2⟩
    · rename_i hk
      try simp only [hk]
      exact hrn _ _ _ _ _ _ _ _ e F X r
    · rename_i hk
      try simp only [hk]
      split at e
      · rename_i as has
        try simp only [has]
        split at e
        case h_2 => cases e
        rename_i y G1 L1 hr
        split at e
        case h_2 => cases e
        rename_i u hu
        simp at e; obtain ⟨rfl, rfl, rfl⟩ := e
        try simp only [hr, hu]
        exact ⟨X, rfl, r⟩
      · rename_i hno
        split at e
        case h_2 => cases e
        rename_i as has
        split at e
        case h_2 => cases e
        rename_i y G1 L1 hr
        split at e
        case isFalse => cases e
        rename_i hfl
        simp at e; obtain ⟨rfl, rfl, rfl⟩ := e
        have has' : mapO (frz C.P 9 true 0 X) args = some as := mapO_same (fun x y _ hx => frz_frame r 9 hx) has
        simp only [hno, has', hr, hfl, if_true]
        exact ⟨X, rfl, r⟩

theorem runL_frame (hE : ExtFrame C) : ∀ n, LFrame (runL C n)
  | 0 => fun base f args G L v G' L' e => by simp [runL] at e
  | n + 1 => fun base g args G L v G' L' e F X r => by
    simp only [runL] at e ⊢
    have ih := doCallL_frame hE (runL_frame hE n)
    split at e
    · rename_i f
      split at e
      · cases e
      rename_i fn hf
      try simp only [hf]
      split at e
      · cases e
      rename_i c hc
      try simp only [hc]
      split at e
      · cases e
      rename_i hlen
      rw [if_neg hlen]
      split at e
      · cases e
      · rename_i x env h1 L1 hne hx
        split at e
        case h_2 => cases e
        rename_i y hy
        simp at e; obtain ⟨rfl, rfl, rfl⟩ := e
        obtain ⟨X', k1, k2⟩ := execL_frame ih r hx
        have hfin : finishA C.P fn (env, X') = some y := by
          unfold finishA at hy ⊢
          have key : ∀ {l vs}, mapO (resA C.P (env, h1)) l = some vs → mapO (resA C.P (env, X')) l = some vs := fun h => mapO_same (fun rv z _ hz => by
            cases rv with
            | tmp t => exact hz
            | cell a t => exact loadA_frame k2 hz) h
          split at hy
          · rename_i v hv; rw [key hv]; exact hy
          · rename_i vs hne' hv
            rw [key hv]
            simp only
            exact hy
          · cases hy
        rw [k1]
        refine ⟨X', ?_, k2⟩
        cases x with
        | exit i => exact (hne i rfl).elim
        | normal => simp only [hfin]
        | ret => simp only [hfin]
      · cases e
    · rename_i l
      split at e
      · cases e
      rename_i rc L0
      split at e
      case isFalse => cases e
      rename_i hcnd
      try simp only
      rw [if_pos hcnd]
      split at e
      · cases e
      rename_i env hps
      try simp only [hps]
      split at e
      case h_2 => cases e
      rename_i s1 h1
      obtain ⟨env1, G1, L1⟩ := s1
      obtain ⟨X1, k1, k2⟩ := execL_frame ih r h1
      rw [k1]
      simp only
      split at e
      · rename_i e2 G2 L2 h2
        simp at e; obtain ⟨rfl, rfl, rfl⟩ := e
        obtain ⟨X2, q1, q2⟩ := execL_frame ih k2 h2
        rw [q1]
        exact ⟨X2, rfl, q2⟩
      · rename_i x e2 G2 L2 hne h2
        simp at e; obtain ⟨rfl, rfl, rfl⟩ := e
        obtain ⟨X2, q1, q2⟩ := execL_frame ih k2 h2
        rw [q1]
        refine ⟨X2, ?_, q2⟩
        cases x with
        | normal => exact (hne rfl).elim
        | exit i => rfl
        | ret => rfl
      · cases e
end Go.Abs
end
section
/-
  The machine with loops leaves alone the rows below its base.
-/
set_option linter.unusedSimpArgs false
set_option linter.unusedVariables false
namespace Go.Abs
open Go

variable {C : Cfg} {P : Program} {G G' : Heap} {base : Nat} {L L' : LS}

def LKept (cl : LCaller) : Prop := ∀ base g args G L v G' L', cl base g args G L = some (v, G', L') → base ≤ G.length → Kept base none G G'

theorem plainC_kept {cl : LCaller} (h : LKept cl) : CallKept (plainC cl) := by
  intro base f args G v G' e hb
  unfold plainC at e
  split at e
  case h_2 => cases e
  rename_i v1 h1 L1 hc
  simp at e; obtain ⟨rfl, rfl⟩ := e
  exact h _ _ _ _ _ _ _ _ hc hb

theorem opL_kept {cl : LCaller} (hcl : LKept cl) (hb : base ≤ G.length) {env : List AVal} {op : Op} {v : AVal} (e : opL C cl base env G L op = some (v, G', L')) : Kept base none G G' := by
  have hoth : ∀ {v G' L'}, (match opA C (plainC cl) base none env G op with | some (v, h') => some (v, h', L) | none => none) = some (v, G', L') → Kept base none G G' := by
    intro v G' L' e
    split at e
    case h_2 => cases e
    rename_i v1 h1 ho
    simp at e; obtain ⟨rfl, rfl, rfl⟩ := e
    exact opA_kept (plainC_kept hcl) hb ho
  unfold opL at e
  simp only at e
  split at e
  · split at e
    · split at e
      · split at e
        case h_2 => cases e
        split at e
        case isFalse => cases e
        exact hcl _ _ _ _ _ _ _ _ e hb
      · split at e
        case h_2 => cases e
        exact hcl _ _ _ _ _ _ _ _ e hb
      · cases e
    · exact hoth e
  · exact hoth e

theorem opsL_kept {cl : LCaller} (hcl : LKept cl) {n : Nat} {all : List Oper} : ∀ {l : List Oper} {env : List AVal} {G : Heap} {L : LS} {s : LSt}, base ≤ G.length → opsL C cl base n all l (env, G, L) = some s → Kept base none G s.2.1
  | [], env, G, L, s, hb, e => by simp [opsL] at e; subst e; exact Kept.refl _ _ _
  | o :: rest, env, G, L, s, hb, e => by
    simp only [opsL] at e
    split at e
    · split at e
      case h_2 => cases e
      rename_i v G1 L1 hop
      split at e
      case h_2 => cases e
      have k := opL_kept hcl hb hop
      exact k.trans (opsL_kept hcl (Nat.le_trans hb k.len) e)
    · split at e
      case h_2 => cases e
      exact opsL_kept hcl hb e

theorem loopL_kept {body : LSt → Option (Ex × LSt)} (hbody : ∀ {env G L x s}, base ≤ G.length → body (env, G, L) = some (x, s) → Kept base none G s.2.1) :
    ∀ {k : Nat} {env : List AVal} {G : Heap} {L : LS} {x : Ex} {s : LSt}, base ≤ G.length → loopL body k (env, G, L) = some (x, s) → Kept base none G s.2.1
  | 0, env, G, L, x, s, hb, e => by simp [loopL] at e
  | k + 1, env, G, L, x, s, hb, e => by
    simp only [loopL] at e
    cases h1 : body (env, G, L) with
    | none => rw [h1] at e; cases e
    | some q =>
      obtain ⟨ex, env1, G1, L1⟩ := q
      have k1 := hbody hb h1
      rw [h1] at e
      cases ex with
      | normal => exact k1.trans (loopL_kept hbody (Nat.le_trans hb k1.len) e)
      | exit i => simp at e; obtain ⟨rfl, rfl⟩ := e; exact k1
      | ret => simp at e; obtain ⟨rfl, rfl⟩ := e; exact k1

theorem execL_kept {cl : LCaller} (hcl : LKept cl) {N n : Nat} {inR : Bool} : ∀ {c : Code} {env : List AVal} {G : Heap} {L : LS} {x : Ex} {s : LSt}, base ≤ G.length → execL C cl N base n inR c (env, G, L) = some (x, s) → Kept base none G s.2.1
  | .skip, env, G, L, x, s, hb, e => by simp [execL] at e; obtain ⟨rfl, rfl⟩ := e; exact Kept.refl _ _ _
  | .region id ops d, env, G, L, x, s, hb, e => by
    simp only [execL] at e
    split at e
    · split at e
      case h_2 => cases e
      rename_i hd
      simp at e; obtain ⟨rfl, rfl⟩ := e
      exact drawA_kept (plainC_kept hcl) hb hd
    · split at e
      case h_2 => cases e
      rename_i hops
      simp at e; obtain ⟨rfl, rfl⟩ := e
      exact opsL_kept hcl hb hops
  | .seq a b, env, G, L, x, s, hb, e => by
    simp only [execL] at e
    cases h1 : execL C cl N base n inR a (env, G, L) with
    | none => rw [h1] at e; cases e
    | some q =>
      obtain ⟨ex, env1, G1, L1⟩ := q
      have k1 := execL_kept hcl hb h1
      rw [h1] at e
      cases ex with
      | normal => exact k1.trans (execL_kept hcl (Nat.le_trans hb k1.len) e)
      | exit i => simp at e; obtain ⟨rfl, rfl⟩ := e; exact k1
      | ret => simp at e; obtain ⟨rfl, rfl⟩ := e; exact k1
  | .cond c a b, env, G, L, x, s, hb, e => by
    simp only [execL] at e
    split at e
    · exact execL_kept hcl hb e
    · exact execL_kept hcl hb e
    · cases e
  | .block id b, env, G, L, x, s, hb, e => by
    simp only [execL] at e
    cases h1 : execL C cl N base n inR b (env, G, L) with
    | none => rw [h1] at e; cases e
    | some q =>
      obtain ⟨ex, env1, G1, L1⟩ := q
      have k1 := execL_kept hcl hb h1
      rw [h1] at e
      cases ex with
      | normal => simp at e; obtain ⟨rfl, rfl⟩ := e; exact k1
      | ret => simp at e; obtain ⟨rfl, rfl⟩ := e; exact k1
      | exit i =>
        simp only at e
        split at e
        · simp at e; obtain ⟨rfl, rfl⟩ := e; exact k1
        · simp at e; obtain ⟨rfl, rfl⟩ := e; exact k1
  | .loop b, env, G, L, x, s, hb, e => by
    simp only [execL] at e
    exact loopL_kept (fun hb e => execL_kept hcl hb e) hb e
  | .exit id, env, G, L, x, s, hb, e => by simp [execL] at e; obtain ⟨rfl, rfl⟩ := e; exact Kept.refl _ _ _
  | .ret, env, G, L, x, s, hb, e => by simp [execL] at e; obtain ⟨rfl, rfl⟩ := e; exact Kept.refl _ _ _
  | .rangeFunc g ps assign body, env, G, L, x, s, hb, e => by
    simp only [execL] at e
    split at e
    · cases e
    split at e
    case h_2 => cases e
    split at e
    case isFalse => cases e
    split at e
    case h_2 => cases e
    rename_i v1 h' rc L1 hc
    have k0 : Kept base none G (G ++ [none]) := ⟨by simp, fun l hl _ => by rw [hget_append, if_neg (by omega)]⟩
    have k1 := k0.trans (hcl _ _ _ _ _ _ _ _ hc (by simp; omega))
    split at e
    · simp at e; obtain ⟨rfl, rfl⟩ := e; exact k1
    · cases e
    · simp at e; obtain ⟨rfl, rfl⟩ := e; exact k1
  | .scope _, env, G, L, x, s, hb, e => by simp [execL] at e
  | .label _, env, G, L, x, s, hb, e => by simp [execL] at e
  | .goto _, env, G, L, x, s, hb, e => by simp [execL] at e
  | .refuse _, env, G, L, x, s, hb, e => by simp [execL] at e

theorem doCallL_kept {rn : LCaller} (hrn : LKept rn) : LKept (doCallL C rn) := by
  intro base g args G L v G' L' e hb
  unfold doCallL at e
  split at e
  · exact hrn _ _ _ _ _ _ _ _ e hb
  split at e
  · split at e
    case h_2 => cases e
    simp at e; obtain ⟨rfl, rfl, rfl⟩ := e; exact Kept.refl _ _ _
  · split at e
    · split at e
      case h_2 => cases e
      split at e
      case h_2 => cases e
      simp at e; obtain ⟨rfl, rfl, rfl⟩ := e; exact Kept.refl _ _ _
    · split at e
      case h_2 => cases e
      rename_i hr
      simp at e; obtain ⟨rfl, rfl, rfl⟩ := e
      have k := hrn _ _ _ _ _ _ _ _ hr (Nat.le_refl _)
      exact ⟨k.len, fun l hl h => k.at_ l (by omega) h⟩
    · exact hrn _ _ _ _ _ _ _ _ e hb
    · repeat' split at e
      all_goals first | cases e | skip
      all_goals exact Kept.refl _ _ _

theorem runL_kept : ∀ n, LKept (runL C n)
  | 0 => fun base g args G L v G' L' e => by simp [runL] at e
  | n + 1 => fun base g args G L v G' L' e hb => by
    have ih := doCallL_kept (C := C) (runL_kept n)
    simp only [runL] at e
    split at e
    · split at e
      · cases e
      split at e
      · cases e
      split at e
      · cases e
      split at e
      · cases e
      · rename_i hx
        split at e
        case h_2 => cases e
        simp at e; obtain ⟨rfl, rfl, rfl⟩ := e
        exact execL_kept ih hb hx
      · cases e
    · split at e
      · cases e
      split at e
      case isFalse => cases e
      split at e
      · cases e
      split at e
      case h_2 => cases e
      rename_i s1 h1
      obtain ⟨env1, G1, L1⟩ := s1
      have k1 := execL_kept ih hb h1
      split at e
      · rename_i h2
        simp at e; obtain ⟨rfl, rfl, rfl⟩ := e
        exact k1.trans (execL_kept ih (Nat.le_trans hb k1.len) h2)
      · rename_i h2
        simp at e; obtain ⟨rfl, rfl, rfl⟩ := e
        exact k1.trans (execL_kept ih (Nat.le_trans hb k1.len) h2)
      · cases e

theorem plainC_touch {rn : LCaller} (hrn : LKept rn) : CallTouch C (plainC (doCallL C rn)) := by
  intro base f args G v G' e ht
  unfold plainC at e
  split at e
  case h_2 => cases e
  rename_i v1 h1 L1 hc
  simp at e; obtain ⟨rfl, rfl⟩ := e
  unfold doCallL at hc
  simp only at hc
  split at hc
  · split at hc
    case h_2 => cases hc
    simp at hc; obtain ⟨rfl, rfl, rfl⟩ := hc; exact fun _ _ => rfl
  · rename_i hext
    split at hc
    · split at hc
      case h_2 => cases hc
      split at hc
      case h_2 => cases hc
      simp at hc; obtain ⟨rfl, rfl, rfl⟩ := hc; exact fun _ _ => rfl
    · split at hc
      case h_2 => cases hc
      rename_i hr
      simp at hc; obtain ⟨rfl, rfl, rfl⟩ := hc
      have k := hrn _ _ _ _ _ _ _ _ hr (Nat.le_refl _)
      exact fun l hl => k.at_ l hl (by simp)
    · rename_i hk
      simp [hext, hk] at ht
    · repeat' split at hc
      all_goals first | cases hc | skip
      all_goals exact fun _ _ => rfl
end Go.Abs
end
section
/-
  The machine with loops against the model's: the records of the loops under way.
-/
set_option linter.unusedSimpArgs false
set_option linter.unusedVariables false
namespace Go.Abs
open Go

variable {P : Program} {m m' : Nat → Option Nat} {Z Z' : Nat → Prop} {h h' : Heap} {w w' : World} {base : Nat} {slot : Option Nat} {lb : Nat → Prop}

/-- the code of a jump -/
def jumpOf : Option Ex → Option Code
  | some .ret => some .ret
  | some (.exit i) => some (.exit i)
  | _ => none

/-- a loop under way, as it lies in the model's heap -/
def LAt (P : Program) (m : Nat → Option Nat) (Z : Nat → Prop) (w : World) (r : LRec) : Prop := ∃ b rec, m r.loc = some b ∧ Z b ∧ w.heap[b]? = some (.loop rec) ∧
  rec.params.toList = r.ps ∧ rec.assign = r.assign ∧ rec.body = r.body ∧ EnvR P m Z w r.n r.env rec.tmps ∧ rec.pending = jumpOf r.jump ∧ rec.state = if r.jump.isNone then .ready else .done

structure LRel (P : Program) (m : Nat → Option Nat) (Z : Nat → Prop) (L : LS) (w : World) : Prop where
  at_ : ∀ r, r ∈ L → LAt P m Z w r
  apart : L.Pairwise fun r r' => m r.loc ≠ m r'.loc

def lbOf (m : Nat → Option Nat) (L : LS) (b : Nat) : Prop := ∃ r, r ∈ L ∧ m r.loc = some b

theorem LRel.nil : LRel P m Z [] w := ⟨(fun r hr => by cases hr), List.Pairwise.nil⟩

theorem LRel.step {L : LS} (l : LRel P m Z L w) (r : HRel P m Z h w) (s : Step base slot lb m Z h w m' Z' h' w') (hlb : ∀ b, lbOf m L b → ¬ lb b) : LRel P m' Z' L w' := by
  have st := s.stays r
  have hmm : ∀ x, x ∈ L → m' x.loc = m x.loc := fun x hx => by
    obtain ⟨b, rec, h1, _⟩ := l.at_ x hx
    rw [h1, s.mm _ _ h1]
  refine ⟨fun x hx => ?_, ?_⟩
  · obtain ⟨b, rec, h1, h2, h3, h4, h5, h6, h7, h8, h9⟩ := l.at_ x hx
    have hb := s.fr b (r.zdom b h2) (fun l blk _ e e' => r.apart l blk b e e' h2) (hlb b ⟨x, hx, h1⟩)
    exact ⟨b, rec, s.mm _ _ h1, s.zz _ h2, hb.trans h3, h4, h5, h6, h7.stays st, h8, h9⟩
  · exact l.apart.imp_of_mem fun {a b} ha hb hne => by rw [hmm a ha, hmm b hb]; exact hne

/-- what a call leaves, loops under way and all -/
def LeavesL (P : Program) (base : Nat) (m : Nat → Option Nat) (Z : Nat → Prop) (h : Heap) (L : LS) (w : World) (v : AVal) (h' : Heap) (L' : LS) : Ending → World → Prop := fun e w' =>
  ∃ u m' Z', e = .returned u ∧ V P m' Z' w' v u ∧ HRel P m' Z' h' w' ∧ LRel P m' Z' L' w' ∧ L'.map (·.loc) = L.map (·.loc) ∧ Step base none (lbOf m L) m Z h w m' Z' h' w'

structure LCallOK (P : Program) (cl : LCaller) : Prop where
  fn : ∀ base f args h L v h' L', cl base (.fn f) args h L = some (v, h', L') → ∀ m Z w us, HRel P m Z h w → LRel P m Z L w → base ≤ h.length → VS P m Z w args us →
    Calls P f us.toArray w (LeavesL P base m Z h L w v h' L')
  yld : ∀ base l args h L v h' L', cl base (.yld l) args h L = some (v, h', L') → ∀ m Z w us b, HRel P m Z h w → LRel P m Z L w → base ≤ h.length → VS P m Z w args us → m l = some b →
    ∃ rec, w.heap[b]? = some (.loop rec) ∧ us.length = rec.params.size ∧
      ∀ ρ, RoundIn (Fr ρ) 0 P b rec.fn ((rec.params.zip us.toArray).foldl (fun tmps (t, a) => tmps.setIfInBounds t a) rec.tmps) rec.assign rec.body w (LeavesL P base m Z h L w v h' L')

theorem LCallOK.plain {cl : LCaller} (hcl : LCallOK P cl) : CallOK P (plainC cl) := by
  intro base f args h v h' e m Z w us r hb hv
  unfold plainC at e
  split at e
  case h_2 => cases e
  rename_i v1 h1 L1 hc
  simp at e; obtain ⟨rfl, rfl⟩ := e
  refine (hcl.fn _ _ _ _ _ _ _ _ hc m Z w us r LRel.nil hb hv).mono fun e' w' hl => ?_
  obtain ⟨u, m', Z', rfl, h1, h2, h3, h4, h5⟩ := hl
  refine ⟨u, m', Z', rfl, h1, h2, ?_⟩
  exact ⟨h5.os, h5.tape, h5.output, h5.size, h5.mm, h5.zz, fun b k1 k2 _ => h5.fr b k1 k2 (fun ⟨r, hr, _⟩ => by cases hr), h5.shp, h5.keep, h5.len, h5.foot, h5.mo, h5.zc, h5.zn⟩
end Go.Abs
end
section
/-
  The machine with loops against the model's: one operation.
-/
set_option linter.unusedSimpArgs false
set_option linter.unusedVariables false
namespace Go.Abs
open Go

variable {ρ : Option Nat} {C : Cfg} {P : Program} {m m' : Nat → Option Nat} {Z Z' : Nat → Prop} {h h' : Heap} {w w' : World} {base : Nat}

theorem opL_wp {cl : LCaller} (hcl : LCallOK P cl) (hN : Named P) (hP : C.P = P) (r : HRel P m Z h w) {L L' : LS} (l : LRel P m Z L w) {n : Nat} {env : List AVal} {a : Act} (he : EnvR P m Z w n env a.tmps) (hb : base ≤ h.length) {o : Oper} {v : AVal}
    (e : opL C cl base env h L o.op = some (v, h', L')) {K : Act → World → Prop} {Q : Exit → Act → World → Prop}
    (hK : ∀ m' Z' w' u, V P m' Z' w' v u → HRel P m' Z' h' w' → LRel P m' Z' L' w' → L'.map (·.loc) = L.map (·.loc) → Step base none (lbOf m L) m Z h w m' Z' h' w' → K (a.put o.dst u) w') : o.wpIn (Fr ρ) 0 P a w K Q := by
  subst hP
  have hoth : (match opA C (plainC cl) base none env h o.op with | some (v, h') => some (v, h', L) | none => none) = some (v, h', L') → o.wpIn (Fr ρ) 0 C.P a w K Q := by
    intro e
    split at e
    case h_2 => cases e
    rename_i v1 h1 ho
    simp at e; obtain ⟨rfl, rfl, rfl⟩ := e
    refine opA_wp hcl.plain hN rfl r he ⟨hb, fun s hs => by cases hs⟩ ho fun m' Z' w' u k1 k2 k3 => ?_
    exact hK m' Z' w' u k1 k2 (l.step r k3 fun _ _ hh => hh) rfl k3.anyLb
  have un : ∀ {x : Operand} {y : AVal}, evalA env x = some y → V C.P m Z w y (a.eval x) := fun hx => evalA_V he hx
  unfold opL at e
  simp only at e
  split at e
  case h_2 => exact hoth e
  rename_i c hop
  have hnd : ∀ c, o.op ≠ .defer c := fun c hc => by rw [hop] at hc; cases hc
  split at e
  case h_2 => exact hoth e
  rename_i f hcal
  split at e
  · rename_i g first captured hf
    split at e
    case h_2 => cases e
    rename_i args hargs
    split at e
    case isFalse => cases e
    rename_i hbod
    have hv := un hf
    simp only [V] at hv
    obtain ⟨fs, cs, hpv, hfs, hcs⟩ := hv
    have hav := (hfs.append (VS.map_act he hargs)).append hcs
    have hcall := hcl.fn base g _ h L v h' L' e m Z w _ r l hb hav
    refine ⟨fun _ _ => trivial, ?_⟩
    rw [Oper.semAt_eq _ _ _ hnd]
    have hx : (execOp a.eval o).run C.P w = .ok (.enter g (fs ++ (c.args.map a.eval).toList ++ cs).toArray) w := by
      unfold execOp; rw [hop]
      simp only [resolve, hcal, hpv, Deferred.ofValue, Sem.run_bind, Sem.run_pure, Result.andThen_ok, invoke]
      rw [run_callFunc' hN hbod]
      congr 2
      apply Array.ext'
      simp
    rw [hx]
    refine ⟨fun h => by simp [Fr, Fence.wide] at h, callsIn_Fr (Calls.mono hcall fun e' w' hl => ?_)⟩
    obtain ⟨u, m', Z', rfl, h1, h2, h3, h4, h5⟩ := hl
    exact hK m' Z' w' u h1 h2 h3 h4 h5
  · rename_i y hf
    split at e
    case h_2 => cases e
    rename_i args hargs
    have hv := un hf
    simp only [V] at hv
    obtain ⟨b, hm, hpv⟩ := hv
    obtain ⟨rec, hrec, hsz, hround⟩ := hcl.yld base y args h L v h' L' e m Z w _ b r l hb (VS.map_act he hargs) hm
    refine ⟨fun _ _ => trivial, ?_⟩
    rw [Oper.semAt_eq _ _ _ hnd]
    have hx : (execOp a.eval o).run C.P w = .ok (.round b rec.fn ((rec.params.zip (c.args.map a.eval)).foldl (fun tmps (t, a) => tmps.setIfInBounds t a) rec.tmps) rec.assign rec.body) w := by
      unfold execOp; rw [hop]
      simp only [resolve, hcal, hpv, Deferred.ofValue, Sem.run_bind, Sem.run_pure, Result.andThen_ok, invoke]
      simpa using run_yield (args := c.args.map a.eval) hrec (by simpa using hsz)
    rw [hx]
    refine ⟨fun h => by simp [Fr, Fence.wide] at h, ?_⟩
    have := hround ρ
    rw [Array.toArray_toList] at this
    refine RoundIn.mono this fun e' w' hl => ?_
    obtain ⟨u, m', Z', rfl, h1, h2, h3, h4, h5⟩ := hl
    exact hK m' Z' w' u h1 h2 h3 h4 h5
  · cases e

theorem lbOf_same {L L' : LS} (l : LRel P m Z L w) (hm : ∀ k b, m k = some b → m' k = some b) (hL : L'.map (·.loc) = L.map (·.loc)) : lbOf m' L' = lbOf m L := by
  have key : ∀ b (K : LS), lbOf m K b ↔ ∃ k ∈ K.map (·.loc), m k = some b := fun b K => ⟨fun ⟨x, hx, hb⟩ => ⟨_, List.mem_map.2 ⟨x, hx, rfl⟩, hb⟩, fun ⟨k, hk, hb⟩ => by obtain ⟨x, hx, rfl⟩ := List.mem_map.1 hk; exact ⟨x, hx, hb⟩⟩
  have key' : ∀ b (K : LS), lbOf m' K b ↔ ∃ k ∈ K.map (·.loc), m' k = some b := fun b K => ⟨fun ⟨x, hx, hb⟩ => ⟨_, List.mem_map.2 ⟨x, hx, rfl⟩, hb⟩, fun ⟨k, hk, hb⟩ => by obtain ⟨x, hx, rfl⟩ := List.mem_map.1 hk; exact ⟨x, hx, hb⟩⟩
  funext b
  refine propext ?_
  rw [key', key, hL]
  constructor
  · rintro ⟨k, hk, hb⟩
    obtain ⟨x, hx, rfl⟩ := List.mem_map.1 hk
    obtain ⟨b', rec, h1, _⟩ := l.at_ x hx
    rw [hm _ _ h1] at hb
    exact ⟨_, hk, h1.trans hb⟩
  · rintro ⟨k, hk, hb⟩; exact ⟨k, hk, hm _ _ hb⟩

theorem opsL_wp {cl : LCaller} (hcl : LCallOK P cl) (hN : Named P) (hP : C.P = P) {n : Nat} {ops : Array Oper} {Q : Exit → Act → World → Prop} : ∀ {l : List Oper} {m : Nat → Option Nat} {Z : Nat → Prop} {w : World} {h : Heap} {L : LS} {env : List AVal} {a : Act} {s : LSt},
    HRel P m Z h w → LRel P m Z L w → EnvR P m Z w n env a.tmps → base ≤ h.length → opsL C cl base n ops.toList l (env, h, L) = some s →
    (∀ m' Z' w' (a' : Act), EnvR P m' Z' w' n s.1 a'.tmps → a'.defers = a.defers → HRel P m' Z' s.2.1 w' → LRel P m' Z' s.2.2 w' → s.2.2.map (·.loc) = L.map (·.loc) → Step base none (lbOf m L) m Z h w m' Z' s.2.1 w' → Q .normal a' w') →
    wpListIn (Fr ρ) 0 P ops Q l a w
  | [], m, Z, w, h, L, env, a, s, r, l, he, hb, e, hQ => by
    simp [opsL] at e; subst e
    exact hQ m Z w a he rfl r l rfl (Step.refl _ _ _ _ _ _ _)
  | o :: rest, m, Z, w, h, L, env, a, s, r, l, he, hb, e, hQ => by
    unfold wpListIn
    simp only [opsL] at e
    have hw := wanted_eq he ops o
    by_cases hwant : wantedA ops.toList env o = true
    · rw [if_pos hwant] at e
      rw [if_pos (hw.trans hwant)]
      split at e
      case h_2 => cases e
      rename_i v h1 L1 hop
      split at e
      case h_2 => cases e
      rename_i env' hput
      refine opL_wp hcl hN hP r l he hb hop fun m' Z' w' u hv r' l' hL st => ?_
      have he' := (he.stays (st.stays r)).put hput hv
      refine opsL_wp hcl hN hP r' l' he' (Nat.le_trans hb st.len) e fun m'' Z'' w'' a' h1 h2 h3 h4 h5 h6 => ?_
      rw [lbOf_same l st.mm hL] at h6
      exact hQ m'' Z'' w'' a' h1 (h2.trans (put_defers _ _ _)) h3 h4 (h5.trans hL) (st.trans h6)
    · rw [if_neg hwant] at e
      rw [if_neg (by rw [hw]; exact hwant)]
      refine ⟨fun _ _ => trivial, ?_⟩
      split at e
      case h_2 => cases e
      rename_i env' hput
      exact opsL_wp hcl hN hP r l (he.put hput V_undef) hb e fun m'' Z'' w'' a' h1 h2 h3 h4 h5 h6 => hQ m'' Z'' w'' a' h1 (h2.trans (put_defers _ _ _)) h3 h4 h5 h6
end Go.Abs
end
