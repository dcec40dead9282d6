/-
  Operations of the machine of values against the model's: the builtins.
-/
import Derived.Test.YtcdjkpppfghkpaaAbsOps6
set_option linter.unusedSimpArgs false
set_option linter.unusedVariables false
namespace Go.Abs
open Go

variable {P : Program} {m : Nat → Option Nat} {Z : Nat → Prop} {h h' : Heap} {w : World} {base : Nat} {slot : Option Nat} {lb : Nat → Prop}

theorem args2 {x y : AVal} {xs : List AVal} {vs : List Value} (hv : VS P m Z w (x :: y :: xs) vs) : ∃ u v us, vs = u :: v :: us ∧ V P m Z w x u ∧ V P m Z w y v := by
  simp only [VS] at hv
  obtain ⟨u, _, rfl, h1, v, us, rfl, h2, _⟩ := hv
  exact ⟨u, v, us, rfl, h1, h2⟩
theorem args1 {x : AVal} {xs : List AVal} {vs : List Value} (hv : VS P m Z w (x :: xs) vs) : ∃ u us, vs = u :: us ∧ V P m Z w x u ∧ VS P m Z w xs us := by
  simp only [VS] at hv
  obtain ⟨u, us, rfl, h1, h2⟩ := hv
  exact ⟨u, us, rfl, h1, h2⟩

theorem appRoads {ts : Array TypeId} {ty t elem : TypeId} {vx : Value} {bs : Option Addr} {sLen sCap size n : Nat} {us : List Value} {zv : Value} (hts : ts[0]? = some t) (hu : P.underlying t = some (.slice elem))
    (hsz : sizeOf P elem = some size) {rest : List Value} (h1 : (match ts[1]? with | some t' => (P.underlying t').map (fun d => match d with | .int _ => true | _ => false) | none => some false) = some false)
    (hlen : ∀ w2 : World, (Builtin.lenOf vx).run P w2 = .ok n w2) (hz : ∀ w2 : World, (zeroValue elem).run P w2 = .ok zv w2)
    (hnew : ∀ w2 : World, w2.heap = w.heap → (Builtin.firstCells size n vx).run P w2 = .ok us.toArray w2) :
      AppRoads P w elem size n bs sLen sCap us zv (Builtin.append_ ts ty (.slice bs sLen sCap :: vx :: rest).toArray) := by
  have ha0 : (Value.slice bs sLen sCap :: vx :: rest).toArray[0]? = some (.slice bs sLen sCap) := rfl
  have ha1 : (Value.slice bs sLen sCap :: vx :: rest).toArray[1]? = some vx := rfl
  have hn0 := hnew w rfl
  have hb : (!false) = true := rfl
  have hff : ¬ (false = true) := by decide
  refine ⟨fun hle w' hst => ?_, fun by_ vs hby hlt hc1 hc2 hold cap hcap hq => ?_⟩
  · unfold Builtin.append_
    rw [hts, ha0, ha1]
    cases ht : ts[1]? with
    | none =>
      simp only [Sem.run_bind, run_underlying' hu, Result.andThen_ok, run_sizeOf' hsz, Sem.run_pure, hlen, if_pos hle, if_pos hb, if_neg hff, hn0]
      cases bs with
      | none => simp only at hst; subst hst; rfl
      | some a => simp only at hst; simp only [Sem.run_bind, hst, Result.andThen_ok, Sem.run_pure]
    | some t' =>
      rw [ht] at h1
      simp only [Option.map_eq_some_iff] at h1
      obtain ⟨d, hd, hf⟩ := h1
      cases d <;> first
        | (cases hf; done)
        | (simp only [Sem.run_bind, run_underlying' hu, run_underlying' hd, Result.andThen_ok, run_sizeOf' hsz, Sem.run_pure, hlen, if_pos hle, if_pos hb, if_neg hff, hn0]
           cases bs with
           | none => simp only at hst; subst hst; rfl
           | some a => simp only at hst; simp only [Sem.run_bind, hst, Result.andThen_ok, Sem.run_pure])
  · obtain ⟨ti, hti, rfl⟩ := bytesOf_some hby
    have g1 : ¬ sLen + n ≤ sCap := by omega
    have g2 : ¬ (((sLen + n : Nat) : Int) > IntKind.i64.max ∧ (false = true ∨ ti.bytes = 0)) := by
      have h3 : IntKind.i64.max = 9223372036854775807 := by decide
      rw [h3]; omega
    have g3 : ¬ Builtin.nextslicecap (sLen + n) sCap * ti.bytes > 2 ^ 48 := by
      have := Nat.mul_le_mul_right ti.bytes (next_le hlt)
      omega
    have ho := hold { w with drawn := w.drawn + 1 } rfl
    have hn' := hnew { w with drawn := w.drawn + 1 } rfl
    unfold Builtin.append_
    rw [hts, ha0, ha1]
    cases ht : ts[1]? with
    | none =>
      simp only [Sem.run_bind, run_underlying' hu, Result.andThen_ok, run_sizeOf' hsz, Sem.run_pure, hlen, if_neg g1, run_typeInfo' hti, if_neg g2, if_neg g3, if_pos hb, if_neg hff, hq, run_askRoom, ho, hn', hz, newRow, run_newObj]
    | some t' =>
      rw [ht] at h1
      simp only [Option.map_eq_some_iff] at h1
      obtain ⟨d, hd, hf⟩ := h1
      cases d <;> first
        | (cases hf; done)
        | simp only [Sem.run_bind, run_underlying' hu, run_underlying' hd, Result.andThen_ok, run_sizeOf' hsz, Sem.run_pure, hlen, if_neg g1, run_typeInfo' hti, if_neg g2, if_neg g3, if_pos hb, if_neg hff, hq, run_askRoom, ho, hn', hz, newRow, run_newObj]

theorem appRoadsZ {ts : Array TypeId} {ty t t' elem : TypeId} {bs : Option Addr} {sLen sCap size by_ : Nat} {k : IntKind} {i : Int} {us : List Value} (hts : ts[0]? = some t) (hu : P.underlying t = some (.slice elem))
    (hsz : sizeOf P elem = some size) {rest : List Value} (ht : ts[1]? = some t') (hd : P.underlying t' = some (.int k)) (hb : bytesOf P elem = some by_) (h0 : 0 ≤ i) (h1 : i ≤ 4611686018427387904) (h2 : i * by_ ≤ 140737488355328)
    {zv : Value} (hz : ∀ w2 : World, (zeroValue elem).run P w2 = .ok zv w2) (hzs : zv.cells.size = size) (hus : us = zerosV zv.cells.toList i.toNat) :
      AppRoads P w elem size i.toNat bs sLen sCap us zv (Builtin.append_ ts ty (.slice bs sLen sCap :: .int .i64 i :: rest).toArray) := by
  have ha0 : (Value.slice bs sLen sCap :: Value.int .i64 i :: rest).toArray[0]? = some (.slice bs sLen sCap) := rfl
  have ha1 : (Value.slice bs sLen sCap :: Value.int .i64 i :: rest).toArray[1]? = some (.int .i64 i) := rfl
  obtain ⟨ti, hti, rfl⟩ := bytesOf_some hb
  have hwi : IntKind.i64.wrap i = i := by unfold IntKind.wrap; simp [IntKind.bits, IntKind.signed]; omega
  have q1 : ¬ i < 0 := by omega
  have q2 : ¬ i * (ti.bytes : Int) > 2 ^ 48 := by omega
  have hb1 : ¬ ((!true) = true) := by decide
  have hzc : Builtin.zeroCells zv.cells i.toNat = us.toArray := by
    apply Array.ext'
    rw [hus]; exact range_zeros _ _
  have happ : ∀ w2 : World, (if i.toNat * size = 0 then pure #[] else do pure (Builtin.zeroCells (← zeroValue elem).cells i.toNat) : Sem (Array Value)).run P w2 = .ok us.toArray w2 := fun w2 => by
    split
    · rename_i hz0
      have : Builtin.zeroCells zv.cells i.toNat = #[] := by
        unfold Builtin.zeroCells
        rw [hzs, hz0, map_range0]
      rw [← hzc, this]; rfl
    · simp only [Sem.run_bind, hz, Result.andThen_ok, Sem.run_pure, hzc]
  refine ⟨fun hle w' hst => ?_, fun by_ vs hby hlt hc1 hc2 hold cap hcap hq => ?_⟩
  · unfold Builtin.append_
    rw [hts, ha0, ha1, ht]
    simp only [Sem.run_bind, run_underlying' hu, run_underlying' hd, Result.andThen_ok, run_sizeOf' hsz, Sem.run_pure, if_true, asInt, asIntOf, hwi, if_neg q1, run_typeInfo' hti, if_neg q2, if_pos hle, if_neg hb1, happ]
    cases bs with
    | none => simp only at hst; subst hst; rfl
    | some a => simp only at hst; simp only [Sem.run_bind, hst, Result.andThen_ok, Sem.run_pure]
  · obtain ⟨ti', hti', rfl⟩ := bytesOf_some hby
    rw [hti] at hti'; simp at hti'; subst hti'
    have g1 : ¬ sLen + i.toNat ≤ sCap := by omega
    have g2 : ¬ (((sLen + i.toNat : Nat) : Int) > IntKind.i64.max ∧ (True ∨ ti.bytes = 0)) := by
      have h3 : IntKind.i64.max = 9223372036854775807 := by decide
      rw [h3]; omega
    have g3 : ¬ Builtin.nextslicecap (sLen + i.toNat) sCap * ti.bytes > 2 ^ 48 := by
      have := Nat.mul_le_mul_right ti.bytes (next_le hlt)
      omega
    have ho := hold { w with drawn := w.drawn + 1 } rfl
    unfold Builtin.append_
    rw [hts, ha0, ha1, ht]
    simp only [Sem.run_bind, run_underlying' hu, run_underlying' hd, Result.andThen_ok, run_sizeOf' hsz, Sem.run_pure, if_true, asInt, asIntOf, hwi, if_neg q1, run_typeInfo' hti, if_neg q2, if_neg g1, if_neg g2, if_neg g3, if_neg hb1, hq, run_askRoom, ho, happ, hz, newRow, run_newObj]

theorem appendA_slice {e : TypeId} {s x : AVal} {n : Nat} {new : List AVal} {u : Value} (ha : appendA P h base slot e s n new = some (x, h')) (hv : V P m Z w s u) : ∃ bs sLen sCap, u = .slice bs sLen sCap := by
  simp only [appendA, Option.bind_eq_bind, Option.bind_eq_some_iff] at ha
  obtain ⟨_, _, _, _, _, _, _, _, ha⟩ := ha
  cases s with
  | own _ _ _ _ => simp only [V] at hv; obtain ⟨_, _, _, _, rfl, _⟩ := hv; exact ⟨_, _, _, rfl⟩
  | lst _ _ => simp only [V] at hv; obtain ⟨_, _, rfl, _⟩ := hv; exact ⟨_, _, _, rfl⟩
  | _ => simp at ha

theorem run_max2 {a b x : AVal} {va vb : Value} (e : max2A a b = some x) (ha : V P m Z w a va) (hb : V P m Z w b vb) : ∃ u, Builtin.max2 va vb = pure u ∧ V P m Z w x u := by
  unfold max2A at e
  split at e
  · simp only [V] at ha hb; subst ha; subst hb
    simp at e; subst e
    exact ⟨_, rfl, V_int _ _⟩
  · cases e
theorem run_min2 {a b x : AVal} {va vb : Value} (e : min2A a b = some x) (ha : V P m Z w a va) (hb : V P m Z w b vb) : ∃ u, Builtin.min2 va vb = pure u ∧ V P m Z w x u := by
  unfold min2A at e
  split at e
  · simp only [V] at ha hb; subst ha; subst hb
    simp at e; subst e
    exact ⟨_, rfl, V_int _ _⟩
  · cases e

theorem run_foldA {f : AVal → AVal → Option AVal} {g : Value → Value → Sem Value} (hfg : ∀ {a b x va vb}, f a b = some x → V P m Z w a va → V P m Z w b vb → ∃ u, g va vb = pure u ∧ V P m Z w x u) :
    ∀ {xs : List AVal} {us : List Value} {a x : AVal} {va : Value}, foldA f a xs = some x → V P m Z w a va → VS P m Z w xs us → ∃ u, (us.foldlM g va).run P w = .ok u w ∧ V P m Z w x u
  | [], us, a, x, va, e, ha, hs => by
    simp [foldA] at e; subst e
    simp only [VS] at hs; subst hs
    exact ⟨va, rfl, ha⟩
  | y :: ys, us, a, x, va, e, ha, hs => by
    simp only [foldA] at e
    split at e
    case h_2 => cases e
    rename_i z hz
    simp only [VS] at hs
    obtain ⟨v, us', rfl, h1, h2⟩ := hs
    obtain ⟨u, h3, h4⟩ := hfg hz ha h1
    obtain ⟨u', h5, h6⟩ := run_foldA hfg e h4 h2
    exact ⟨u', by simp only [List.foldlM_cons, h3, pure_bind, h5], h6⟩

theorem run_builtin (r : HRel P m Z h w) {b : Builtin} {ts : Array TypeId} {ty : TypeId} {cs : Array Bool} {args : List AVal} {vs : List Value} {x : AVal} (e : builtinA P h base slot b ts.toList args = some (x, h')) (fr : Free m h base slot)
    (hv : VS P m Z w args vs) : ∃ sv : Sem Value, builtin b ts ty cs vs.toArray = (do pure (.value (← sv))) ∧ Gives P m Z base slot lb h w sv x h' := by
  unfold builtinA at e
  split at e
  · rename_i t ts' x' xs' hts
    obtain ⟨u, us, rfl, hx, _⟩ := args1 hv
    have h0 : ts[0]? = some t := by rw [← Array.getElem?_toList, hts]; rfl
    have a0 : (u :: us).toArray[0]? = some u := rfl
    refine ⟨_, rfl, ?_⟩
    split at e
    · rename_i s hu
      simp at e; obtain ⟨rfl, rfl⟩ := e
      simp only [V] at hx; subst hx
      exact Gives.same r (by simp only [Builtin.len_, h0, a0, Sem.run_bind, run_underlying' hu, Result.andThen_ok, Sem.run_pure]; rfl) (V_int _ _)
    · rename_i hu
      simp at e; obtain ⟨rfl, rfl⟩ := e
      simp only [V] at hx; obtain ⟨b, a, cp, _, rfl, _⟩ := hx
      exact Gives.same r (by simp only [Builtin.len_, h0, a0, Sem.run_bind, run_underlying' hu, Result.andThen_ok, Sem.run_pure]; rfl) (V_int _ _)
    · rename_i hu
      simp at e; obtain ⟨rfl, rfl⟩ := e
      simp only [V] at hx; obtain ⟨bs, cp, rfl, _⟩ := hx
      exact Gives.same r (by simp only [Builtin.len_, h0, a0, Sem.run_bind, run_underlying' hu, Result.andThen_ok, Sem.run_pure]; rfl) (V_int _ _)
    · rename_i n _ hu
      simp at e; obtain ⟨rfl, rfl⟩ := e
      exact Gives.same r (by simp only [Builtin.len_, h0, a0, Sem.run_bind, run_underlying' hu, Result.andThen_ok, Sem.run_pure]; rfl) (V_int _ _)
    · rename_i ar hu
      split at e
      case h_2 => cases e
      rename_i n _ hu2
      simp at e; obtain ⟨rfl, rfl⟩ := e
      exact Gives.same r (by simp only [Builtin.len_, h0, a0, Sem.run_bind, run_underlying' hu, run_underlying' hu2, Result.andThen_ok, Sem.run_pure]; rfl) (V_int _ _)
    · cases e
  · rename_i t ts' x' xs' hts
    obtain ⟨u, us, rfl, hx, _⟩ := args1 hv
    have h0 : ts[0]? = some t := by rw [← Array.getElem?_toList, hts]; rfl
    have a0 : (u :: us).toArray[0]? = some u := rfl
    refine ⟨_, rfl, ?_⟩
    split at e
    · rename_i hu
      simp at e; obtain ⟨rfl, rfl⟩ := e
      simp only [V] at hx; obtain ⟨b, a, cp, _, rfl, _, _, h3, _⟩ := hx
      have := h3 _ rfl
      subst this
      exact Gives.same r (by simp only [Builtin.cap_, h0, a0, Sem.run_bind, run_underlying' hu, Result.andThen_ok, Sem.run_pure]; rfl) (V_int _ _)
    · rename_i hu
      simp at e; obtain ⟨rfl, rfl⟩ := e
      simp only [V] at hx; obtain ⟨bs, cp, rfl, _, _, h3, _⟩ := hx
      obtain ⟨_, rfl⟩ := h3 trivial
      exact Gives.same r (by simp only [Builtin.cap_, h0, a0, Sem.run_bind, run_underlying' hu, Result.andThen_ok, Sem.run_pure]; rfl) (V_int _ _)
    · cases e
  · rename_i t ts' s' x' xs' hts
    obtain ⟨u, v, us, rfl, hx, hy⟩ := args2 hv
    have h0 : ts[0]? = some t := by rw [← Array.getElem?_toList, hts]; rfl
    have h1 : ts[1]? = ts'.head? := by rw [← Array.getElem?_toList, hts]; cases ts' <;> rfl
    refine ⟨_, rfl, ?_⟩
    simp only [Option.bind_eq_bind, Option.bind_eq_some_iff] at e
    obtain ⟨el, hel, size, hsz, z, hz, _, hzl, isInt, hint, e⟩ := e
    have hu := elemT_some hel
    have hzl := of_decide_eq_true (gd_some hzl)
    obtain ⟨zv, hzw, hzv⟩ := run_zero' (m := m) (Z := Z) hz w
    have hzs : zv.cells.size = size := by have := hzv.length; simp at this; omega
    split at e
    · rename_i hii
      split at e
      case h_2 => cases e
      rename_i i
      simp only [Option.bind_eq_bind, Option.bind_eq_some_iff] at e
      obtain ⟨by_, hby, e⟩ := e
      split at e
      case isFalse => cases e
      rename_i hcnd
      obtain ⟨c1, c2, c3⟩ := hcnd
      simp only [V] at hy; subst hy
      subst hii
      cases ts' with
      | nil => simp [intArg] at hint
      | cons t' ts'' =>
        simp only [intArg, Option.map_eq_some_iff] at hint
        obtain ⟨d, hd, hf⟩ := hint
        obtain ⟨k, rfl⟩ : ∃ k, d = .int k := by cases d <;> first | exact ⟨_, rfl⟩ | cases hf
        obtain ⟨bs, sLen, sCap, rfl⟩ := appendA_slice e hx
        exact run_appTail r e fr hx rfl hsz hzs (hzv.zeros i.toNat) (appRoadsZ h0 hu hsz (h1.trans rfl) hd hby c1 c2 c3 hzw hzs rfl)
    · rename_i hii
      simp only [Option.bind_eq_bind, Option.bind_eq_some_iff] at e
      obtain ⟨n, hn, new, hnew, e⟩ := e
      obtain ⟨ws, g1, g2, g3⟩ := run_src r hnew hy
      obtain ⟨bs, sLen, sCap, rfl⟩ := appendA_slice e hx
      have hii : isInt = false := by simpa using hii
      subst hii
      have hint' : (match ts[1]? with | some t' => (P.underlying t').map (fun d => match d with | .int _ => true | _ => false) | none => some false) = some false := by
        rw [h1]
        cases ts' with
        | nil => rfl
        | cons t' _ => exact hint
      exact run_appTail r e fr hx rfl hsz hzs g1 (appRoads h0 hu hsz hint' (run_lenOf hn hy) hzw g3)
  · rename_i t ts' d' s' xs' hts
    obtain ⟨u, v, us, rfl, hx, hy⟩ := args2 hv
    have h0 : ts[0]? = some t := by rw [← Array.getElem?_toList, hts]; rfl
    have a0 : (u :: v :: us).toArray[0]? = some u := rfl
    have a1 : (u :: v :: us).toArray[1]? = some v := rfl
    refine ⟨_, rfl, ?_⟩
    simp only [Option.bind_eq_bind, Option.bind_eq_some_iff] at e
    obtain ⟨el, hel, size, hsz, n, hn, k, hk, new, hnew, e⟩ := e
    have hu := elemT_some hel
    obtain ⟨ws, g1, g2, g3⟩ := run_src r hnew hy
    have g3 := g3 w rfl
    have hmin : Nat.min n k = min n k := rfl
    cases d' with
    | own l off len cap =>
      simp [dstLen] at hk; subst hk
      simp only [Option.bind_eq_bind, Option.bind_eq_some_iff] at e
      obtain ⟨h1, hwr, e⟩ := e
      simp at e; obtain ⟨rfl, rfl⟩ := e
      simp only [V] at hx
      obtain ⟨b, ad, cp, hm, rfl, q1, q2, q3, q4⟩ := hx
      obtain ⟨w', k1, k2, k3⟩ := write_rel r hwr g1 hm
      have k1' : (storeCells ad ws).run P w = .ok () w' := by
        by_cases hcp : cp = 0
        · have : ws = [] := List.eq_nil_of_length_eq_zero (by rw [g2, show len = 0 by omega]; simp)
          subst this
          simpa [storeCells] using k1
        · rw [q2 hcp]; exact k1
      refine ⟨.int .i64 ((min n len : Nat) : Int), w', m, ?_, V_int _ _, k2, k3⟩
      simp only [Builtin.copy_, h0, a0, a1, Sem.run_bind, run_underlying' hu, Result.andThen_ok, run_lenOf hn hy, run_sizeOf' hsz, hmin, g3, k1', Sem.run_pure]
      rfl
    | lst isNil xs =>
      simp [dstLen] at hk; subst hk
      have e : (if min n xs.length = 0 then some (AVal.int .i64 ((min n xs.length : Nat) : Int), h) else none) = some (x, h') := e
      split at e
      case isFalse => cases e
      rename_i hk0
      simp at e; obtain ⟨rfl, rfl⟩ := e
      have : ws = [] := List.eq_nil_of_length_eq_zero (by rw [g2, hk0]; simp)
      subst this
      simp only [V] at hx
      obtain ⟨bs, cp, rfl, _⟩ := hx
      refine Gives.same r (u := .int .i64 ((min n xs.length : Nat) : Int)) ?_ (V_int _ _)
      cases bs with
      | none =>
        simp only [Builtin.copy_, h0, a0, a1, Sem.run_bind, run_underlying' hu, Result.andThen_ok, run_lenOf hn hy, run_sizeOf' hsz, hmin, g3, Sem.run_pure]
        rfl
      | some a =>
        simp only [Builtin.copy_, h0, a0, a1, Sem.run_bind, run_underlying' hu, Result.andThen_ok, run_lenOf hn hy, run_sizeOf' hsz, hmin, g3, Sem.run_pure, storeCells]
        rfl
    | _ => simp [dstLen] at hk
  · rename_i t ts' x' xs' hts
    obtain ⟨u, us, rfl, hx, _⟩ := args1 hv
    have h0 : ts[0]? = some t := by rw [← Array.getElem?_toList, hts]; rfl
    have a0 : (u :: us).toArray[0]? = some u := rfl
    refine ⟨_, rfl, ?_⟩
    simp only [Option.bind_eq_bind, Option.bind_eq_some_iff] at e
    obtain ⟨el, hel, z, hz, size, hsz, _, hzl, e⟩ := e
    have hu := elemT_some hel
    have hzl := of_decide_eq_true (gd_some hzl)
    obtain ⟨zv, hzw, hzv⟩ := run_zero' (m := m) (Z := Z) hz w
    have vt : V P m Z w (.tup []) (.tuple #[]) := by simp only [V]; exact ⟨[], rfl, by simp [VS]⟩
    split at e
    · rename_i isNil xs
      split at e
      case isFalse => cases e
      rename_i hc
      simp at e; obtain ⟨rfl, rfl⟩ := e
      simp only [V] at hx
      obtain ⟨bs, cp, rfl, q1, q2, q3, q4⟩ := hx
      refine Gives.same r (u := .tuple #[]) ?_ vt
      cases bs with
      | none => simp only [Builtin.clear_, h0, a0, Sem.run_bind, run_underlying' hu, Result.andThen_ok, Sem.run_pure]
      | some a =>
        simp at q2; subst q2
        simp at hc
        subst hc
        simp only [List.length_nil] at a0 ⊢
        simp only [Builtin.clear_, h0, a0, Sem.run_bind, run_underlying' hu, Result.andThen_ok, Sem.run_pure]
    · rename_i l off len cap
      simp only [V] at hx
      obtain ⟨b, ad, cp, hm, rfl, q1, q2, q3, q4⟩ := hx
      split at e
      · rename_i hl0
        simp at e; obtain ⟨rfl, rfl⟩ := e
        subst hl0
        exact Gives.same r (u := .tuple #[]) (by simp only [Builtin.clear_, h0, a0, Sem.run_bind, run_underlying' hu, Result.andThen_ok, Sem.run_pure]) vt
      · rename_i hl0
        simp only [Option.bind_eq_bind, Option.bind_eq_some_iff] at e
        obtain ⟨h1, hwr, e⟩ := e
        simp at e; obtain ⟨rfl, rfl⟩ := e
        obtain ⟨w', k1, k2, k3⟩ := write_rel r hwr (hzv.zeros len) hm
        have had := q2 (by omega)
        subst had
        obtain ⟨len', rfl⟩ := Nat.exists_eq_succ_of_ne_zero hl0
        have hzc : (Builtin.zeroCells zv.cells (len' + 1)).toList = zerosV zv.cells.toList (len' + 1) := range_zeros _ _
        refine ⟨.tuple #[], w', m, ?_, by simp only [V]; exact ⟨[], rfl, by simp [VS]⟩, k2, k3⟩
        simp only [Builtin.clear_, h0, a0, Sem.run_bind, run_underlying' hu, Result.andThen_ok, hzw, hzc, k1, Sem.run_pure]
    · cases e
  · rename_i x' xs' hts
    obtain ⟨u, us, rfl, hx, hs⟩ := args1 hv
    refine ⟨_, rfl, ?_⟩
    simp only [Option.map_eq_some_iff] at e
    obtain ⟨y, hy, e⟩ := e
    simp at e; obtain ⟨rfl, rfl⟩ := e
    obtain ⟨z, h1, h2⟩ := run_foldA (g := Builtin.max2) run_max2 hy hx hs
    exact Gives.same r (by simpa [Builtin.max_] using h1) h2
  · rename_i x' xs' hts
    obtain ⟨u, us, rfl, hx, hs⟩ := args1 hv
    refine ⟨_, rfl, ?_⟩
    simp only [Option.map_eq_some_iff] at e
    obtain ⟨y, hy, e⟩ := e
    simp at e; obtain ⟨rfl, rfl⟩ := e
    obtain ⟨z, h1, h2⟩ := run_foldA (g := Builtin.min2) run_min2 hy hx hs
    exact Gives.same r (by simpa [Builtin.min_] using h1) h2
  · cases e
end Go.Abs
