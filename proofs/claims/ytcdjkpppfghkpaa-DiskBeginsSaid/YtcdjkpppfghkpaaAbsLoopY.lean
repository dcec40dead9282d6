import Derived.Test.YtcdjkpppfghkpaaAbsLoop
import Derived.RangeFuncLeaves
import Derived.Test.YtcdjkpppfghkpaaAbsExec
section
/-
  The machine with loops against the model's: a body.
-/
set_option linter.unusedSimpArgs false
set_option linter.unusedVariables false
namespace Go.Abs
open Go

variable {κ : Nat} {ρ : Option Nat} {C : Cfg} {P : Program} {m m' : Nat → Option Nat} {Z Z' : Nat → Prop} {h h' : Heap} {w w' : World} {base : Nat} {slot : Option Nat} {lb : Nat → Prop}

/-- the calls that an activation has put off: the marks of its loops, and nothing behind them -/
inductive Marks (κ : Nat) (Z : Nat → Prop) (w : World) : List Deferred → Prop where
  | nil : κ ≤ w.heap.size → Marks κ Z w []
  | cons {D : Nat} {ds : List Deferred} : κ ≤ D → Z D → w.heap[D]? = some (.deferred (some [])) → (∀ d, d ∈ ds → d.target ≠ .collected D) → Marks κ Z w ds → Marks κ Z w ({ target := .collected D, args := #[] } :: ds)

theorem Marks.size {ds : List Deferred} (k : Marks κ Z w ds) : κ ≤ w.heap.size := by
  induction k with
  | nil hk => exact hk
  | cons _ _ _ _ _ ih => exact ih

theorem Marks.step {ds : List Deferred} (k : Marks κ Z w ds) {L : LS} (l : LRel P m Z L w) (r : HRel P m Z h w) (s : Step base slot (lbOf m L) m Z h w m' Z' h' w') : Marks κ Z' w' ds := by
  induction k with
  | nil hk => exact .nil (Nat.le_trans hk s.size)
  | @cons D ds hk hz hd hne _ ih =>
    refine .cons hk (s.zz _ hz) ?_ hne ih
    rw [s.fr D (r.zdom D hz) (fun l blk _ e e' => r.apart l blk D e e' hz) fun ⟨x, hx, hb⟩ => ?_]
    · exact hd
    · obtain ⟨b, rec, h1, _, h3, _⟩ := l.at_ x hx
      rw [h1] at hb
      simp at hb; subst hb
      rw [hd] at h3; cases h3

/-- what a piece of code leaves, loops under way and all -/
def EndsL (κ : Nat) (P : Program) (base n : Nat) (m : Nat → Option Nat) (Z : Nat → Prop) (h : Heap) (L : LS) (w : World) (x : Ex) (s : LSt) : Exit → Act → World → Prop := fun e a' w' =>
  ExM x e ∧ ∃ m' Z', EnvR P m' Z' w' n s.1 a'.tmps ∧ Marks κ Z' w' a'.defers ∧ HRel P m' Z' s.2.1 w' ∧ LRel P m' Z' s.2.2 w' ∧ s.2.2.map (·.loc) = L.map (·.loc) ∧ Step base none (lbOf m L) m Z h w m' Z' s.2.1 w'

theorem EndsL.trans {n : Nat} {L L' : LS} {x : Ex} {s : LSt} {e : Exit} {a : Act} {w'' : World} (l : LRel P m Z L w) (hL : L'.map (·.loc) = L.map (·.loc)) (st : Step base none (lbOf m L) m Z h w m' Z' h' w') (q : EndsL κ P base n m' Z' h' L' w' x s e a w'') :
    EndsL κ P base n m Z h L w x s e a w'' := by
  obtain ⟨hx, m1, Z1, h1, h2, h3, h4, h5, h6⟩ := q
  rw [lbOf_same l st.mm hL] at h6
  exact ⟨hx, m1, Z1, h1, h2, h3, h4, h5.trans hL, st.trans h6⟩
end Go.Abs
end
section
/-
  The machine with loops against the model's: the rules of a body.
-/
set_option linter.unusedSimpArgs false
set_option linter.unusedVariables false
namespace Go.Abs
open Go

variable {κ : Nat} {ρ : Option Nat} {C : Cfg} {P : Program} {m m' : Nat → Option Nat} {Z Z' : Nat → Prop} {h h' : Heap} {w w' : World} {base : Nat} {slot : Option Nat} {lb : Nat → Prop}

/-- what is asked of a range over a function (it is shown in its own place) -/
def RangeOK (κ : Nat) (P : Program) (C : Cfg) (cl : LCaller) (N base n : Nat) (ρ : Option Nat) (inR : Bool) : Prop := ∀ g ps assign body m Z w h L env (a : Act) x s, HRel P m Z h w → LRel P m Z L w → EnvR P m Z w n env a.tmps → Marks κ Z w a.defers → base ≤ h.length →
  execL C cl N base n inR (.rangeFunc g ps assign body) (env, h, L) = some (x, s) → (Code.rangeFunc g ps assign body).wpIn (Fr ρ) 0 P (EndsL κ P base n m Z h L w x s) a w

theorem execL_wp {cl : LCaller} (hcl : LCallOK P cl) (hN : Named P) (hP : C.P = P) (hm : P.follows .mixedOrders = true) (hF : LFrame cl) (hK : LKept cl) (hT : CallTouch C (plainC cl)) {N n : Nat} {inR : Bool} (hR : RangeOK κ P C cl N base n ρ inR) :
    ∀ {c : Code} {m : Nat → Option Nat} {Z : Nat → Prop} {w : World} {h : Heap} {L : LS} {env : List AVal} {a : Act} {x : Ex} {s : LSt},
    HRel P m Z h w → LRel P m Z L w → EnvR P m Z w n env a.tmps → Marks κ Z w a.defers → base ≤ h.length → execL C cl N base n inR c (env, h, L) = some (x, s) → c.wpIn (Fr ρ) 0 P (EndsL κ P base n m Z h L w x s) a w
  | .skip, m, Z, w, h, L, env, a, x, s, r, l, he, k, hb, e => by
    simp [execL] at e; obtain ⟨rfl, rfl⟩ := e
    exact wpIn_skip ⟨trivial, m, Z, he, k, r, l, rfl, Step.refl _ _ _ _ _ _ _⟩
  | .region id ops d, m, Z, w, h, L, env, a, x, s, r, l, he, k, hb, e => by
    simp only [execL] at e
    cases d with
    | true =>
      simp only [if_true] at e
      split at e
      case h_2 => cases e
      rename_i env' h' hd
      simp at e; obtain ⟨rfl, rfl⟩ := e
      refine drawA_wp hcl.plain hN hP hm (plainC_frame hF) (plainC_kept hK) hT r he hb hd fun m' Z' w' a' h1 h2 h3 h4 => ?_
      exact ⟨trivial, m', Z', h1, h2 ▸ k.step l r h4.anyLb, h3, l.step r h4 fun _ _ hh => hh, rfl, h4.anyLb⟩
    | false =>
      simp only [Bool.false_eq_true, if_false] at e
      split at e
      case h_2 => cases e
      rename_i s' hops
      simp at e; obtain ⟨rfl, rfl⟩ := e
      exact wpIn_region_list (opsL_wp hcl hN hP r l he hb hops fun m' Z' w' a' h1 h2 h3 h4 h5 h6 => ⟨trivial, m', Z', h1, h2 ▸ k.step l r h6, h3, h4, h5, h6⟩)
  | .seq x1 x2, m, Z, w, h, L, env, a, x, s, r, l, he, k, hb, e => by
    simp only [execL] at e
    cases h1 : execL C cl N base n inR x1 (env, h, L) with
    | none => rw [h1] at e; cases e
    | some q =>
      obtain ⟨ex, env1, G1, L1⟩ := q
      have ih1 := execL_wp hcl hN hP hm hF hK hT hR r l he k hb h1
      refine wpIn_seq (Go.wpIn_mono ih1 fun e' a' w' hq => ?_)
      rw [h1] at e
      cases ex with
      | normal =>
        simp only at e
        obtain ⟨hx, m', Z', k1, k2, k3, k4, k5, k6⟩ := hq
        cases e' <;> first | exact hx.elim | skip
        have := execL_wp hcl hN hP hm hF hK hT hR k3 k4 k1 k2 (Nat.le_trans hb k6.len) e
        exact Go.wpIn_mono this fun e'' a'' w'' hq' => hq'.trans l k5 k6
      | exit i =>
        simp at e; obtain ⟨rfl, rfl⟩ := e
        have hx := hq.1
        cases e' <;> first | exact hx.elim | exact hq
      | ret =>
        simp at e; obtain ⟨rfl, rfl⟩ := e
        have hx := hq.1
        cases e' <;> first | exact hx.elim | exact hq
  | .cond c x1 x2, m, Z, w, h, L, env, a, x, s, r, l, he, k, hb, e => by
    simp only [execL] at e
    split at e
    · rename_i hc
      have hv := evalA_V he hc
      simp only [V] at hv
      exact wpIn_cond_true hv (execL_wp hcl hN hP hm hF hK hT hR r l he k hb e)
    · rename_i hc
      have hv := evalA_V he hc
      simp only [V] at hv
      exact wpIn_cond_false hv (execL_wp hcl hN hP hm hF hK hT hR r l he k hb e)
    · cases e
  | .block id b, m, Z, w, h, L, env, a, x, s, r, l, he, k, hb, e => by
    simp only [execL] at e
    cases h1 : execL C cl N base n inR b (env, h, L) with
    | none => rw [h1] at e; cases e
    | some q =>
      obtain ⟨ex, env1, G1, L1⟩ := q
      have ih1 := execL_wp hcl hN hP hm hF hK hT hR r l he k hb h1
      refine wpIn_block (Go.wpIn_mono ih1 fun e' a' w' hq => ?_)
      rw [h1] at e
      have hx := hq.1
      cases ex with
      | normal =>
        simp at e; obtain ⟨rfl, rfl⟩ := e
        cases e' <;> first | exact hx.elim | exact hq
      | ret =>
        simp at e; obtain ⟨rfl, rfl⟩ := e
        cases e' <;> first | exact hx.elim | exact hq
      | exit i =>
        cases e' <;> first | exact hx.elim | skip
        rename_i j
        obtain rfl : i = j := hx
        simp only at e
        simp only [Exit.inBlock]
        split at e
        · rename_i hi
          simp at e; obtain ⟨rfl, rfl⟩ := e
          rw [if_pos hi]
          exact ⟨trivial, hq.2⟩
        · rename_i hi
          simp at e; obtain ⟨rfl, rfl⟩ := e
          rw [if_neg hi]
          exact hq
  | .loop b, m, Z, w, h, L, env, a, x, s, r, l, he, k, hb, e => by
    simp only [execL] at e
    refine wpIn_loop_rounds N ?_
    have key : ∀ (j : Nat) {m : Nat → Option Nat} {Z : Nat → Prop} {w : World} {h : Heap} {L : LS} {env : List AVal} {a : Act}, HRel P m Z h w → LRel P m Z L w → EnvR P m Z w n env a.tmps → Marks κ Z w a.defers → base ≤ h.length →
        loopL (execL C cl N base n inR b) j (env, h, L) = some (x, s) → Code.roundsIn (Fr ρ) 0 P b (EndsL κ P base n m Z h L w x s) j a w := by
      intro j
      induction j with
      | zero => intro m Z w h L env a r l he k hb e; simp [loopL] at e
      | succ j ih =>
        intro m Z w h L env a r l he k hb e
        simp only [loopL] at e
        rw [roundsIn_succ]
        cases h1 : execL C cl N base n inR b (env, h, L) with
        | none => rw [h1] at e; cases e
        | some q =>
          obtain ⟨ex, env1, G1, L1⟩ := q
          have ih1 := execL_wp hcl hN hP hm hF hK hT hR r l he k hb h1
          refine Go.wpIn_mono ih1 fun e' a' w' hq => ?_
          rw [h1] at e
          have hx := hq.1
          cases ex with
          | normal =>
            obtain ⟨_, m', Z', k1, k2, k3, k4, k5, k6⟩ := hq
            cases e' <;> first | exact hx.elim | skip
            exact rounds_mono (fun e'' a'' w'' hq' => hq'.trans l k5 k6) (ih k3 k4 k1 k2 (Nat.le_trans hb k6.len) e)
          | ret =>
            simp at e; obtain ⟨rfl, rfl⟩ := e
            cases e' <;> first | exact hx.elim | exact hq
          | exit i =>
            simp at e; obtain ⟨rfl, rfl⟩ := e
            cases e' <;> first | exact hx.elim | exact hq
    exact key N r l he k hb e
  | .exit id, m, Z, w, h, L, env, a, x, s, r, l, he, k, hb, e => by
    simp [execL] at e; obtain ⟨rfl, rfl⟩ := e
    exact wpIn_exit ⟨rfl, m, Z, he, k, r, l, rfl, Step.refl _ _ _ _ _ _ _⟩
  | .ret, m, Z, w, h, L, env, a, x, s, r, l, he, k, hb, e => by
    simp [execL] at e; obtain ⟨rfl, rfl⟩ := e
    exact wpIn_ret ⟨trivial, m, Z, he, k, r, l, rfl, Step.refl _ _ _ _ _ _ _⟩
  | .rangeFunc g ps assign body, m, Z, w, h, L, env, a, x, s, r, l, he, k, hb, e => hR g ps assign body m Z w h L env a x s r l he k hb e
  | .scope _, m, Z, w, h, L, env, a, x, s, r, l, he, k, hb, e => by simp [execL] at e
  | .label _, m, Z, w, h, L, env, a, x, s, r, l, he, k, hb, e => by simp [execL] at e
  | .goto _, m, Z, w, h, L, env, a, x, s, r, l, he, k, hb, e => by simp [execL] at e
  | .refuse _, m, Z, w, h, L, env, a, x, s, r, l, he, k, hb, e => by simp [execL] at e
end Go.Abs
end
section
/-
  The machine with loops against the model's: a loop's record is turned.
-/
set_option linter.unusedSimpArgs false
set_option linter.unusedVariables false
namespace Go.Abs
open Go

variable {ρ : Option Nat} {C : Cfg} {P : Program} {m m' : Nat → Option Nat} {Z Z' : Nat → Prop} {h h' : Heap} {w w' : World} {base : Nat} {slot : Option Nat} {lb : Nat → Prop}

theorem putLoop_cell {b : Nat} {rec : Loop} (h1 : w.heap[b]? = some (.loop rec)) (rec' : Loop) (c o : Nat) : (w.putObj b (.loop rec')).cell? ⟨c, o, none⟩ = w.cell? ⟨c, o, none⟩ := by
  by_cases hc : c = b
  · subst hc
    have hlt : c < w.heap.size := (Array.getElem?_eq_some_iff.1 h1).1
    simp only [World.cell?, World.putObj_heap_same hlt, h1]
  · exact cell_of_heap (World.putObj_heap_other hc)

theorem putLoop_shape {b : Nat} {rec : Loop} (h1 : w.heap[b]? = some (.loop rec)) (rec' : Loop) (c : Nat) : (w.putObj b (.loop rec')).shape? c = w.shape? c := by
  by_cases hc : c = b
  · subst hc
    have hlt : c < w.heap.size := (Array.getElem?_eq_some_iff.1 h1).1
    simp only [World.shape?, World.putObj_heap_same hlt, h1]
  · simp only [World.shape?, World.putObj_heap_other hc]

theorem putLoop_step {b : Nat} {rec : Loop} (h1 : w.heap[b]? = some (.loop rec)) (rec' : Loop) : Step base none (fun c => c = b) m Z h w m Z h (w.putObj b (.loop rec')) :=
  ⟨rfl, rfl, rfl, by simp, fun _ _ e => e, fun _ z => z, fun c _ _ hc => World.putObj_heap_other hc, fun c x hx => by rw [putLoop_shape h1]; exact hx, fun _ _ => rfl, Nat.le_refl _, fun l blk c hl e e' => .inr ⟨l, blk, hl, e, e'⟩, fun _ _ _ => rfl,
    fun c o _ => putLoop_cell h1 rec' c o, fun _ z => .inl z⟩

theorem HRel.putLoop (r : HRel P m Z h w) {b : Nat} {rec : Loop} (hz : Z b) (h1 : w.heap[b]? = some (.loop rec)) (rec' : Loop) : HRel P m Z h (w.putObj b (.loop rec')) := by
  have st := (putLoop_step (base := 0) (m := m) (Z := Z) (h := h) h1 rec').stays r
  refine ⟨fun l blk e => ?_, r.inj, r.apart, fun l c e => by simpa using r.dom l c e, fun c hc => by simpa using r.zdom c hc⟩
  obtain ⟨c, hc, ⟨us, rest, fz, k1, k2, k3, k4⟩, k5⟩ := r.row l blk e
  have hne : c ≠ b := fun hh => by subst hh; exact r.apart l blk c e hc hz
  exact ⟨c, hc, ⟨us, rest, fz, by rw [World.putObj_heap_other hne]; exact k1, VS.stays st k2, k3, k4⟩, k5⟩
end Go.Abs
end
section
/-
  The machine with loops against the model's: a loop begins.
-/
set_option linter.unusedSimpArgs false
set_option linter.unusedVariables false
namespace Go.Abs
open Go

variable {ρ : Option Nat} {C : Cfg} {P : Program} {m m' : Nat → Option Nat} {Z Z' : Nat → Prop} {h h' : Heap} {w w' : World} {base : Nat} {slot : Option Nat} {lb : Nat → Prop}

/-- the world behind the beginning of a loop -/
def begun (w : World) (fn : FuncId) (tmps : Array Value) (ps : Array Tmp) (assign body : Code) : World :=
  (w.alloc (.deferred (some []))).alloc (.loop { state := .ready, pending := none, fn, tmps, params := ps, assign, body, defers := w.heap.size })

theorem begun_old {fn : FuncId} {tmps : Array Value} {ps : Array Tmp} {assign body : Code} {b : Nat} (hb : b < w.heap.size) : (begun w fn tmps ps assign body).heap[b]? = w.heap[b]? := by
  show ((w.heap.push _).push _)[b]? = _
  rw [Array.getElem?_push, if_neg (by simp; omega), Array.getElem?_push, if_neg (by omega)]

theorem begun_size {fn : FuncId} {tmps : Array Value} {ps : Array Tmp} {assign body : Code} : (begun w fn tmps ps assign body).heap.size = w.heap.size + 2 := by
  show ((w.heap.push _).push _).size = _
  simp
theorem begun_D {fn : FuncId} {tmps : Array Value} {ps : Array Tmp} {assign body : Code} : (begun w fn tmps ps assign body).heap[w.heap.size]? = some (.deferred (some [])) := by
  show ((w.heap.push _).push _)[w.heap.size]? = _
  rw [Array.getElem?_push, if_neg (by simp)]
  simp
theorem begun_l {fn : FuncId} {tmps : Array Value} {ps : Array Tmp} {assign body : Code} : (begun w fn tmps ps assign body).heap[w.heap.size + 1]? = some (.loop { state := .ready, pending := none, fn, tmps, params := ps, assign, body, defers := w.heap.size }) := by
  show ((w.heap.push _).push _)[w.heap.size + 1]? = _
  rw [Array.getElem?_push, if_pos (by simp)]

def nmB (m : Nat → Option Nat) (h : Heap) (w : World) : Nat → Option Nat := upd m h.length (w.heap.size + 1)
def zB (Z : Nat → Prop) (w : World) : Nat → Prop := fun b => Z b ∨ b = w.heap.size ∨ b = w.heap.size + 1

theorem begun_step (r : HRel P m Z h w) {fn : FuncId} {tmps : Array Value} {ps : Array Tmp} {assign body : Code} :
    Step base none noLb m Z h w (nmB m h w) (zB Z w) (h ++ [none]) (begun w fn tmps ps assign body) := by
  have hg : ∀ l, hget (h ++ [none]) l = hget h l := fun l => by
    rw [hget_append]
    split
    · rename_i hl; subst hl
      cases hx : hget h h.length with
      | none => rfl
      | some b => have := hget_lt hx; omega
    · rfl
  have hm : ∀ l b, m l = some b → nmB m h w l = some b := fun l b e => by
    unfold nmB upd
    rw [if_neg (fun hl => by have := (r.dom l b e).1; omega)]
    exact e
  refine ⟨rfl, rfl, rfl, by rw [begun_size]; omega, hm, fun b hz => .inl hz, fun b hb _ _ => begun_old hb, fun b x hx => ?_, fun l _ => hg l, by simp, fun l blk b hl e e' => ?_, fun l hl _ => ?_, fun b o hz => cell_of_heap (begun_old (r.zdom b hz)), fun b hz => ?_⟩
  · have hb : b < w.heap.size := by
      rcases Nat.lt_or_ge b w.heap.size with h' | h'
      · exact h'
      · simp [World.shape?, Array.getElem?_eq_none h'] at hx
    simp only [World.shape?, begun_old hb]; exact hx
  · rw [hg] at e
    have hl := hget_lt e
    unfold nmB upd at e'
    rw [if_neg (by omega)] at e'
    exact .inr ⟨l, blk, by assumption, e, e'⟩
  · unfold nmB upd; rw [if_neg (by omega)]
  · rcases hz with hz | rfl | rfl
    · exact .inl hz
    · exact .inr (Nat.le_refl _)
    · exact .inr (by omega)

theorem begun_rel (r : HRel P m Z h w) {fn : FuncId} {tmps : Array Value} {ps : Array Tmp} {assign body : Code} : HRel P (nmB m h w) (zB Z w) (h ++ [none]) (begun w fn tmps ps assign body) := by
  have st := begun_step (base := 0) r (fn := fn) (tmps := tmps) (ps := ps) (assign := assign) (body := body)
  have sy := st.stays r
  have hg : ∀ l, hget (h ++ [none]) l = hget h l := fun l => by
    rw [hget_append]
    split
    · rename_i hl; subst hl
      cases hx : hget h h.length with
      | none => rfl
      | some b => have := hget_lt hx; omega
    · rfl
  have old : ∀ l blk, hget (h ++ [none]) l = some blk → nmB m h w l = m l := fun l blk e => by
    rw [hg] at e
    have := hget_lt e
    unfold nmB upd; rw [if_neg (by omega)]
  refine ⟨fun l blk e => ?_, fun l l' blk blk' b e e' e1 e2 => ?_, fun l blk b e e1 hz => ?_, fun l b e => ?_, fun b hz => ?_⟩
  · obtain ⟨b, hb, ⟨us, rest, fz, k1, k2, k3, k4⟩, k5⟩ := r.row l blk (by rwa [hg] at e)
    exact ⟨b, st.mm _ _ hb, ⟨us, rest, fz, by rw [begun_old (r.dom l b hb).2]; exact k1, VS.stays sy k2, k3, k4⟩, k5⟩
  · rw [old l blk e] at e1
    rw [old l' blk' e'] at e2
    exact r.inj l l' blk blk' b (by rwa [hg] at e) (by rwa [hg] at e') e1 e2
  · rw [old l blk e] at e1
    have hd := (r.dom l b e1).2
    rcases hz with hz | rfl | rfl
    · exact r.apart l blk b (by rwa [hg] at e) e1 hz
    · omega
    · omega
  · unfold nmB upd at e
    rw [begun_size]
    split at e
    · rename_i hl; simp at e; subst hl; subst e; simp
    · have := r.dom l b e; simp; omega
  · rw [begun_size]
    rcases hz with hz | rfl | rfl
    · have := r.zdom b hz; omega
    · omega
    · omega
end Go.Abs
end
