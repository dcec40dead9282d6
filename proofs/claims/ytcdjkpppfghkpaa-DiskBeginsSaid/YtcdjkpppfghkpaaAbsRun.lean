/-
  The machine of values against the model's: one operation, a region, a body, a call.
-/
import Derived.Test.YtcdjkpppfghkpaaAbsOps7
import Derived.LoopNIn
import Derived.OrdersIn
import Derived.TacticsIn
import Derived.RangeFuncRecord
set_option linter.unusedSimpArgs false
set_option linter.unusedVariables false
namespace Go.Abs
open Go

/-- any frame: outside a round, or in one -/
def Fr (ρ : Option Nat) : Fence := { Fence.wide with round := ρ }

theorem callsIn_Fr {ρ : Option Nat} {n : Nat} {P : Program} {f : FuncId} {args : Array Value} {w : World} {R : Ending → World → Prop} (h : Calls P f args w R) : CallsIn (Fr ρ) n P f args w R :=
  (callsIn_wide (n := n)).2 h

variable {ρ : Option Nat} {C : Cfg} {P : Program} {m : Nat → Option Nat} {Z : Nat → Prop} {h h' : Heap} {w : World} {base : Nat} {slot : Option Nat} {lb : Nat → Prop}

/-- what a call that gives v leaves -/
def Leaves (P : Program) (base : Nat) (m : Nat → Option Nat) (Z : Nat → Prop) (h : Heap) (w : World) (v : AVal) (h' : Heap) : Ending → World → Prop := fun e w' =>
  ∃ u m' Z', e = .returned u ∧ V P m' Z' w' v u ∧ HRel P m' Z' h' w' ∧ Step base none noLb m Z h w m' Z' h' w'

/-- a way to call that tells the truth -/
def CallOK (P : Program) (cl : Caller) : Prop := ∀ base f args h v h', cl base f args h = some (v, h') → ∀ m Z w us, HRel P m Z h w → base ≤ h.length → VS P m Z w args us →
  Calls P f us.toArray w (Leaves P base m Z h w v h')

/-- every function that has a body is called as one -/
def Named (P : Program) : Prop := ∀ (f : FuncId) (fn : Func), P.funcs[f]? = some fn → fn.body.isSome = true → (fn.name == "runtime.NumGoroutine") = false

theorem run_callFunc' (hN : Named P) {f : FuncId} (hb : bodied P f = true) (args : Array Value) (w : World) : (callFunc f args).run P w = .ok (.enter f args) w := by
  unfold bodied at hb
  split at hb
  · rename_i fn hf
    have h1 := hN f fn hf hb
    have h2 : fn.body.isNone = false := by cases hh : fn.body <;> simp_all
    have h1' : ¬ ((fn.name == "runtime.NumGoroutine") = true) := by rw [h1]; decide
    have h2' : ¬ (fn.body.isNone = true) := by rw [h2]; decide
    simp only [callFunc, Sem.run_bind, run_program, Result.andThen_ok, hf, if_neg h1', if_neg h2', Sem.run_pure]
  · cases hb

theorem VS.map_act {n : Nat} {env : List AVal} {a : Act} (he : EnvR P m Z w n env a.tmps) {xs : Array Operand} {vs : List AVal} (e : evalsA env xs.toList = some vs) : VS P m Z w vs (xs.map a.eval).toList := by
  rw [Array.toList_map]; exact evalsA_V he e

/-- one operation -/
theorem opA_wp {cl : Caller} (hcl : CallOK P cl) (hN : Named P) (hP : C.P = P) (r : HRel P m Z h w) {n : Nat} {env : List AVal} {a : Act} (he : EnvR P m Z w n env a.tmps) (fr : Free m h base slot) {o : Oper} {v : AVal}
    (e : opA C cl base slot env h o.op = some (v, h')) {K : Act → World → Prop} {Q : Exit → Act → World → Prop}
    (hK : ∀ m' Z' w' u, V P m' Z' w' v u → HRel P m' Z' h' w' → Step base slot noLb m Z h w m' Z' h' w' → K (a.put o.dst u) w') : o.wpIn (Fr ρ) 0 P a w K Q := by
  subst hP
  have hnd : ∀ c, o.op ≠ .defer c := fun c hc => by rw [hc] at e; simp [opA] at e
  have fin : ∀ {sv : Sem Value}, execOp a.eval o = (do pure (.value (← sv))) → Gives C.P m Z base slot noLb h w sv v h' → o.wpIn (Fr ρ) 0 C.P a w K Q := fun {sv} hx hg => by
    obtain ⟨u, w', m', h1, h2, h3, h4⟩ := hg
    refine ⟨fun _ _ => trivial, ?_⟩
    rw [Oper.semAt_eq _ _ _ hnd, hx, Sem.run_bind, h1]
    exact hK m' Z w' u h2 h3 h4
  have same : ∀ {sv : Sem Value} {x : AVal}, execOp a.eval o = (do pure (.value (← sv))) → some (x, h) = some (v, h') → (∃ u, sv.run C.P w = .ok u w ∧ V C.P m Z w x u) → o.wpIn (Fr ρ) 0 C.P a w K Q := fun {sv x} hx hxv ⟨u, h1, h2⟩ => by
    simp only [Option.some.injEq, Prod.mk.injEq] at hxv
    obtain ⟨rfl, rfl⟩ := hxv
    exact fin hx (Gives.same r h1 h2)
  have un : ∀ {x : Operand} {y : AVal}, evalA env x = some y → V C.P m Z w y (a.eval x) := fun hx => evalA_V he hx
  unfold opA at e
  split at e
  · rename_i x heq
    simp only [Option.map_eq_some_iff] at e
    obtain ⟨y, hy, e⟩ := e
    exact same (sv := pure (a.eval x)) (by unfold execOp; rw [heq]; rfl) (congrArg some e) ⟨_, rfl, un hy⟩
  · rename_i x heq
    simp only [Option.map_eq_some_iff] at e
    obtain ⟨y, hy, e⟩ := e
    exact same (sv := pure (a.eval x)) (by unfold execOp; rw [heq]; rfl) (congrArg some e) ⟨_, rfl, un hy⟩
  · rename_i c x y heq
    have hx : execOp a.eval o = (do pure (.value (← (do let b ← asBool (a.eval c); pure (if b then a.eval x else a.eval y) : Sem Value)))) := by unfold execOp; rw [heq]; simp
    split at e
    · rename_i hc
      have := un hc
      simp only [V] at this
      simp only [Option.map_eq_some_iff] at e
      obtain ⟨z, hz, e⟩ := e
      exact same hx (congrArg some e) ⟨a.eval x, by rw [this]; rfl, un hz⟩
    · rename_i hc
      have := un hc
      simp only [V] at this
      simp only [Option.map_eq_some_iff] at e
      obtain ⟨z, hz, e⟩ := e
      exact same hx (congrArg some e) ⟨a.eval y, by rw [this]; rfl, un hz⟩
    · cases e
  · rename_i t heq
    simp only [Option.bind_eq_bind, Option.bind_eq_some_iff] at e
    obtain ⟨z, hz, ⟨l, h1⟩, hal, e⟩ := e
    simp at e; obtain ⟨rfl, rfl⟩ := e
    exact fin (by unfold execOp; rw [heq]) (run_alloc r hz hal fr)
  · rename_i t x heq
    simp only [Option.bind_eq_bind, Option.bind_eq_some_iff] at e
    obtain ⟨z, hz, ⟨l, h1⟩, hal, e⟩ := e
    simp at e; obtain ⟨rfl, rfl⟩ := e
    exact fin (by unfold execOp; rw [heq]) (run_box r (un hz) hal fr)
  · rename_i t ps heq
    simp only [Option.bind_eq_bind, Option.bind_eq_some_iff, Option.map_eq_some_iff] at e
    obtain ⟨ps', hps, x, hx, e⟩ := e
    have hpv := parts_V he hps
    rw [← Array.toList_map] at hpv
    exact same (by unfold execOp; rw [heq]) (congrArg some e) (run_build hx hpv)
  · rename_i t n ps heq
    simp only [Option.bind_eq_bind, Option.bind_eq_some_iff] at e
    obtain ⟨ps', hps, e⟩ := e
    have hpv := parts_V he hps
    rw [← Array.toList_map] at hpv
    exact fin (by unfold execOp; rw [heq]) (run_buildSlice r e fr hpv)
  · rename_i t x heq
    simp only [Option.bind_eq_bind, Option.bind_eq_some_iff, Option.map_eq_some_iff] at e
    obtain ⟨p, hp, y, hy, e⟩ := e
    exact same (by unfold execOp; rw [heq]) (congrArg some e) (run_loadAt r hy (un hp))
  · rename_i t x y heq
    simp only [Option.bind_eq_bind, Option.bind_eq_some_iff, Option.map_eq_some_iff] at e
    obtain ⟨p, hp, q, hq, h1, hs, e⟩ := e
    simp at e; obtain ⟨rfl, rfl⟩ := e
    obtain ⟨w', k1, k2, k3⟩ := run_storeAt r hs (un hp) (un hq)
    refine ⟨fun _ _ => trivial, ?_⟩
    rw [Oper.semAt_eq _ _ _ hnd]
    have hx : execOp a.eval o = (do Instr.storeAt t (a.eval x) (a.eval y); pure .skip) := by unfold execOp; rw [heq]
    rw [hx, Sem.run_bind, k1]
    exact hK m Z w' Go.undef (by simp only [V]) k2 k3
  · rename_i x heq
    split at e
    · rename_i p hx
      simp at e; obtain ⟨rfl, rfl⟩ := e
      have hv := un hx
      have h0 := hv
      obtain ⟨l, o'⟩ := p
      simp only [V] at h0
      obtain ⟨b, _, hpv⟩ := h0
      exact same (sv := pure (a.eval x)) (by unfold execOp; rw [heq]; simp only; rw [hpv]; rfl) rfl ⟨_, rfl, hv⟩
    · rename_i cs hx
      simp at e; obtain ⟨rfl, rfl⟩ := e
      have hv := un hx
      have h0 := hv
      simp only [V] at h0
      obtain ⟨b, o', hpv, _⟩ := h0
      exact same (sv := pure (a.eval x)) (by unfold execOp; rw [heq]; simp only; rw [hpv]; rfl) rfl ⟨_, rfl, hv⟩
    · rename_i f a' c' hx
      simp at e; obtain ⟨rfl, rfl⟩ := e
      have hv := un hx
      have h0 := hv
      simp only [V] at h0
      obtain ⟨fs, cs, hpv, _⟩ := h0
      exact same (sv := pure (a.eval x)) (by unfold execOp; rw [heq]; simp only; rw [hpv]; rfl) rfl ⟨_, rfl, hv⟩
    · cases e
  · rename_i op t x y _ heq
    simp only [Option.bind_eq_bind, Option.bind_eq_some_iff, Option.map_eq_some_iff] at e
    obtain ⟨p, hp, q, hq, z, hz, e⟩ := e
    obtain ⟨u, h1, h2⟩ := run_binOp hz (un hp) (un hq)
    have hg := run_eqGuard (P := C.P) (t := t) (op := op) x y (un hp) (un hq) (fun ho => by
      unfold binA at hz
      cases p <;> first | rfl | skip
      cases q <;> first | rfl | skip
      rcases ho with rfl | rfl
      · simp only at hz
        split at hz
        · assumption
        · cases hz
      · simp only at hz
        split at hz
        · assumption
        · cases hz)
    exact same (sv := do eqGuard op t x y (a.eval x) (a.eval y); binOp op t (a.eval x) (a.eval y)) (by unfold execOp; rw [heq]) (congrArg some e) ⟨u, by simp only [Sem.run_bind, hg, Result.andThen_ok, h1], h2⟩
  · rename_i op _ x heq
    simp only [Option.bind_eq_bind, Option.bind_eq_some_iff, Option.map_eq_some_iff] at e
    obtain ⟨p, hp, z, hz, e⟩ := e
    exact same (by unfold execOp; rw [heq]) (congrArg some e) (run_unOp hz (un hp))
  · rename_i s d x heq
    simp only [Option.bind_eq_bind, Option.bind_eq_some_iff] at e
    obtain ⟨p, hp, e⟩ := e
    exact fin (by unfold execOp; rw [heq]) (run_conv r e fr (un hp))
  · rename_i f first captured heq
    simp only [Option.bind_eq_bind, Option.bind_eq_some_iff] at e
    obtain ⟨p, hp, q, hq, e⟩ := e
    exact same (by unfold execOp; rw [heq]) e ⟨_, rfl, by
      simp only [V]
      exact ⟨_, _, by simp only [Array.toArray_toList], VS.map_act he hp, VS.map_act he hq⟩⟩
  · rename_i t l c heq
    simp only [Option.bind_eq_bind, Option.bind_eq_some_iff] at e
    obtain ⟨p, hp, q, hq, e⟩ := e
    exact fin (by unfold execOp; rw [heq]) (run_makeSlice r e fr (un hp) (un hq))
  · rename_i t x lo hi mx heq
    simp only [Option.bind_eq_bind, Option.bind_eq_some_iff, Option.map_eq_some_iff] at e
    obtain ⟨p, hp, l, hl, k, hk, q, hq, z, hz, e⟩ := e
    exact same (by unfold execOp; rw [heq]) (congrArg some e) (run_slice hz (un hp) (evalO_V he hl) (evalO_V he hk) (evalO_V he hq))
  · rename_i s x f heq
    simp only [Option.bind_eq_bind, Option.bind_eq_some_iff, Option.map_eq_some_iff] at e
    obtain ⟨p, hp, z, hz, e⟩ := e
    exact same (by unfold execOp; rw [heq]) (congrArg some e) (run_fieldAddr hz (un hp))
  · rename_i s x f heq
    simp only [Option.bind_eq_bind, Option.bind_eq_some_iff, Option.map_eq_some_iff] at e
    obtain ⟨p, hp, z, hz, e⟩ := e
    exact same (by unfold execOp; rw [heq]) (congrArg some e) (run_field hz (un hp))
  · rename_i t x i heq
    simp only [Option.bind_eq_bind, Option.bind_eq_some_iff, Option.map_eq_some_iff] at e
    obtain ⟨p, hp, q, hq, z, hz, e⟩ := e
    exact same (by unfold execOp; rw [heq]) (congrArg some e) (run_indexAddr hz (un hp) (un hq))
  · rename_i t x i heq
    simp only [Option.bind_eq_bind, Option.bind_eq_some_iff, Option.map_eq_some_iff] at e
    obtain ⟨p, hp, q, hq, z, hz, e⟩ := e
    exact same (by unfold execOp; rw [heq]) (congrArg some e) (run_index hz (un hp) (un hq))
  · rename_i x i heq
    split at e
    case h_2 => cases e
    rename_i vs hx
    split at e
    case h_2 => cases e
    rename_i y hy
    have hv := un hx
    simp only [V] at hv
    obtain ⟨us, hpv, hus⟩ := hv
    obtain ⟨u, k1, k2⟩ := hus.get hy
    exact same (sv := Instr.extract (a.eval x) i) (by unfold execOp; rw [heq]) e ⟨u, by rw [hpv]; simp [Instr.extract, k1], k2⟩
  · rename_i c heq
    split at e
    · rename_i b hcal
      simp only [Option.bind_eq_bind, Option.bind_eq_some_iff] at e
      obtain ⟨args, hargs, e⟩ := e
      obtain ⟨sv, h1, h2⟩ := run_builtin (ty := o.type) (cs := c.args.map fun | .const _ => true | _ => false) r e fr (VS.map_act he hargs)
      refine fin ?_ h2
      unfold execOp; rw [heq]
      simp only [resolve, hcal, invoke, pure_bind]
      rw [Array.toArray_toList] at h1
      exact h1
    · rename_i f hcal
      split at e
      case h_2 => cases e
      rename_i g first captured hf
      simp only [Option.bind_eq_bind, Option.bind_eq_some_iff] at e
      obtain ⟨args, hargs, _, hb, e⟩ := e
      have hb := gd_some hb
      have hv := un hf
      simp only [V] at hv
      obtain ⟨fs, cs, hpv, hfs, hcs⟩ := hv
      have hav := (hfs.append (VS.map_act he hargs)).append hcs
      have hcall := hcl base g _ h v h' e m Z w _ r fr.le hav
      refine ⟨fun _ _ => trivial, ?_⟩
      rw [Oper.semAt_eq _ _ _ hnd]
      have hx : (execOp a.eval o).run C.P w = .ok (.enter g (fs ++ (c.args.map a.eval).toList ++ cs).toArray) w := by
        unfold execOp; rw [heq]
        simp only [resolve, hcal, hpv, Deferred.ofValue, Sem.run_bind, Sem.run_pure, Result.andThen_ok, invoke]
        rw [run_callFunc' hN hb]
        congr 2
        apply Array.ext'
        simp
      rw [hx]
      refine ⟨fun h => by simp [Fr, Fence.wide] at h, callsIn_Fr (Calls.mono hcall fun e' w' hl => ?_)⟩
      obtain ⟨u, m', Z', rfl, h1, h2, h3⟩ := hl
      exact hK m' Z' w' u h1 h2 h3.anyslot
    · cases e
  · cases e

/-! ### a region that is carried out in the text's order -/
theorem getD_some {tmps : Array Value} {d : Nat} {b : Bool} (e : tmps.getD d Go.undef = .bool b) : tmps[d]? = some (.bool b) := by
  rw [Array.getD_eq_getD_getElem?] at e
  cases h : tmps[d]? with
  | none => rw [h] at e; simp [Go.undef] at e
  | some v => rw [h] at e; simp at e; rw [e]

theorem V_bool_inv {x : AVal} {b : Bool} (hv : V P m Z w x (.bool b)) : x = .bool b := by
  cases x with
  | bool c => simp only [V] at hv; cases hv; rfl
  | undef | int _ _ | str _ | nilFunc => simp only [V] at hv; cases hv
  | ptr l => cases l with
    | none => simp only [V] at hv; cases hv
    | some p => simp only [V] at hv; obtain ⟨_, _, hh⟩ := hv; cases hh
  | cref _ => simp only [V] at hv; obtain ⟨_, _, hh, _⟩ := hv; cases hh
  | own _ _ _ _ => simp only [V] at hv; obtain ⟨_, _, _, _, hh, _⟩ := hv; cases hh
  | lst _ _ => simp only [V] at hv; obtain ⟨_, _, hh, _⟩ := hv; cases hh
  | func _ _ _ => simp only [V] at hv; obtain ⟨_, _, hh, _⟩ := hv; cases hh
  | yld _ => simp only [V] at hv; obtain ⟨_, _, hh⟩ := hv; cases hh
  | agg _ => simp only [V] at hv; obtain ⟨_, hh, _⟩ := hv; cases hh
  | tup _ => simp only [V] at hv; obtain ⟨_, hh, _⟩ := hv; cases hh

theorem wanted_eq {n : Nat} {env : List AVal} {a : Act} (he : EnvR P m Z w n env a.tmps) (ops : Array Oper) (o : Oper) : Region.wanted o (yielded ops a.tmps) = wantedA ops.toList env o := by
  unfold Region.wanted wantedA
  cases hg : o.guard with
  | none => rfl
  | some p =>
    obtain ⟨j, want⟩ := p
    simp only
    have hj : ops.toList[j]? = ops[j]? := Array.getElem?_toList
    rw [hj]
    unfold yielded
    cases hd : (ops[j]?).bind (·.dst) with
    | none => rfl
    | some d =>
      simp only [Option.bind_some]
      have hv := he.2 d
      cases ht : a.tmps[d]? with
      | none =>
        rw [Array.getD_eq_getD_getElem?, ht] at hv
        simp only [Option.getD_none] at hv
        cases hx : getX env d with
        | bool b => rw [hx] at hv; simp [V, Go.undef] at hv
        | _ => rfl
      | some v =>
        rw [Array.getD_eq_getD_getElem?, ht] at hv
        simp only [Option.getD_some] at hv
        cases v with
        | bool b =>
          rw [V_bool_inv hv]
          cases b <;> cases want <;> rfl
        | _ =>
          cases hx : getX env d with
          | bool b => rw [hx] at hv; simp [V] at hv
          | _ => rfl

theorem EnvR.stays {m' : Nat → Option Nat} {Z' : Nat → Prop} {w' : World} {n : Nat} {env : List AVal} {tmps : Array Value} (he : EnvR P m Z w n env tmps) (s : Stays m Z w m' Z' w') : EnvR P m' Z' w' n env tmps :=
  ⟨he.1, fun i => V.stays s (he.2 i)⟩

theorem EnvR.put {n : Nat} {env env' : List AVal} {a : Act} (he : EnvR P m Z w n env a.tmps) {dst : Option Tmp} {v : AVal} {u : Value} (e : putA n env dst v = some env') (hv : V P m Z w v u) : EnvR P m Z w n env' (a.put dst u).tmps := by
  unfold putA at e
  split at e
  · simp at e; subst e; exact he
  · rename_i d
    split at e
    case isFalse => cases e
    rename_i hd
    simp at e; subst e
    refine ⟨by simp [Act.put, he.1], fun i => ?_⟩
    rw [getX_setX]
    simp only [Act.put]
    rw [Array.getD_eq_getD_getElem?, Array.getElem?_setIfInBounds]
    split
    · rename_i hdi
      subst hdi
      rw [if_pos (by rw [he.1]; exact hd)]
      exact hv
    · have := he.2 i
      rwa [Array.getD_eq_getD_getElem?] at this

theorem put_defers (a : Act) (dst : Option Tmp) (u : Value) : (a.put dst u).defers = a.defers := by cases dst <;> rfl

theorem V_undef : V P m Z w .undef Go.undef := by simp only [V]

theorem opsA_wp {cl : Caller} (hcl : CallOK P cl) (hN : Named P) (hP : C.P = P) {n : Nat} {ops : Array Oper} {Q : Exit → Act → World → Prop} : ∀ {l : List Oper} {m : Nat → Option Nat} {Z : Nat → Prop} {w : World} {h : Heap} {env : List AVal} {a : Act} {s : St},
    HRel P m Z h w → EnvR P m Z w n env a.tmps → base ≤ h.length → opsA C cl base n ops.toList l (env, h) = some s →
    (∀ m' Z' w' (a' : Act), EnvR P m' Z' w' n s.1 a'.tmps → a'.defers = a.defers → HRel P m' Z' s.2 w' → Step base none noLb m Z h w m' Z' s.2 w' → Q .normal a' w') → wpListIn (Fr ρ) 0 P ops Q l a w
  | [], m, Z, w, h, env, a, s, r, he, hb, e, hQ => by
    simp [opsA] at e; subst e
    exact hQ m Z w a he rfl r (Step.refl _ _ _ _ _ _ _)
  | o :: rest, m, Z, w, h, env, a, s, r, he, hb, e, hQ => by
    unfold wpListIn
    simp only [opsA] at e
    have hw := wanted_eq he ops o
    by_cases hwant : wantedA ops.toList env o = true
    · rw [if_pos hwant] at e
      rw [if_pos (hw.trans hwant)]
      split at e
      case h_2 => cases e
      rename_i v h1 hop
      split at e
      case h_2 => cases e
      rename_i env' hput
      refine opA_wp hcl hN hP r he ⟨hb, fun s hs => by cases hs⟩ hop fun m' Z' w' u hv r' st => ?_
      have he' := (he.stays (st.stays r)).put hput hv
      refine opsA_wp hcl hN hP r' he' (Nat.le_trans hb st.len) e fun m'' Z'' w'' a' h1 h2 h3 h4 => hQ m'' Z'' w'' a' h1 (h2.trans (put_defers _ _ _)) h3 (st.trans h4)
    · rw [if_neg hwant] at e
      rw [if_neg (by rw [hw]; exact hwant)]
      refine ⟨fun _ _ => trivial, ?_⟩
      split at e
      case h_2 => cases e
      rename_i env' hput
      exact opsA_wp hcl hN hP r (he.put hput V_undef) hb e fun m'' Z'' w'' a' h1 h2 h3 h4 => hQ m'' Z'' w'' a' h1 (h2.trans (put_defers _ _ _)) h3 h4

/-! ### a body -/
def ExM : Ex → Exit → Prop
  | .normal, .normal => True
  | .exit i, .exit j => i = j
  | .ret, .ret => True
  | _, _ => False

/-- what a piece of code leaves -/
def Ends (P : Program) (base n : Nat) (m : Nat → Option Nat) (Z : Nat → Prop) (h : Heap) (w : World) (ds : List Deferred) (x : Ex) (s : St) : Exit → Act → World → Prop := fun e a' w' =>
  ExM x e ∧ ∃ m' Z', EnvR P m' Z' w' n s.1 a'.tmps ∧ a'.defers = ds ∧ HRel P m' Z' s.2 w' ∧ Step base none noLb m Z h w m' Z' s.2 w'

theorem Ends.trans {n : Nat} {m' : Nat → Option Nat} {Z' : Nat → Prop} {w' : World} {ds : List Deferred} {x : Ex} {s : St} {e : Exit} {a : Act} {w'' : World} (st : Step base none noLb m Z h w m' Z' h' w') (q : Ends P base n m' Z' h' w' ds x s e a w'') :
    Ends P base n m Z h w ds x s e a w'' := by
  obtain ⟨hx, m1, Z1, h1, h2, h3, h4⟩ := q
  exact ⟨hx, m1, Z1, h1, h2, h3, st.trans h4⟩

theorem rounds_mono {c : Code} {Q Q' : Exit → Act → World → Prop} (hq : ∀ e a w, Q e a w → Q' e a w) : ∀ {k : Nat} {a : Act} {w : World}, Code.roundsIn (Fr ρ) 0 P c Q k a w → Code.roundsIn (Fr ρ) 0 P c Q' k a w
  | 0, _, _, h => h.elim
  | k + 1, a, w, h => by
    rw [roundsIn_succ] at h ⊢
    refine Go.wpIn_mono h fun e a w he => ?_
    cases e with
    | normal => exact rounds_mono hq he
    | _ => exact hq _ _ _ he

end Go.Abs
