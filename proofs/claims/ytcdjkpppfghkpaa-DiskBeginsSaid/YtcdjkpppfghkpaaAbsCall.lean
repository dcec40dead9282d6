/-
  The machine of values against the model's: what a call gives, told without its rows; whole calls.
-/
import Derived.Test.YtcdjkpppfghkpaaAbsExec
set_option linter.unusedSimpArgs false
set_option linter.unusedVariables false
namespace Go.Abs
open Go

variable {C : Cfg} {P : Program} {m : Nat → Option Nat} {Z : Nat → Prop} {h h' : Heap} {w : World} {base : Nat} {slot : Option Nat} {lb : Nat → Prop}

theorem VS_nil : VS P m Z w [] [] := by simp only [VS]

/-! ### the results -/
theorem run_resA (r : HRel P m Z h w) {n : Nat} {s : St} {a : Act} (hs : s.2 = h) (he : EnvR P m Z w n s.1 a.tmps) {rv : ResultVar} {v : AVal} (e : resA P s rv = some v) :
    ∃ u, ((match rv with | .tmp t => pure (a.tmps.getD t Go.undef) | .cell ad t => do loadVar t (← asAddr (a.tmps.getD ad Go.undef))) : Sem Value).run P w = .ok u w ∧ V P m Z w v u := by
  subst hs
  cases rv with
  | tmp t => simp [resA] at e; subst e; exact ⟨_, rfl, he.2 t⟩
  | cell ad t =>
    simp only [resA] at e
    have hv := he.2 ad
    obtain ⟨u, h1, h2⟩ := run_loadAt r e hv
    refine ⟨u, ?_, h2⟩
    have hp : ∃ p, a.tmps.getD ad Go.undef = .pointer (some p) := by
      unfold loadA at e
      split at e
      · rename_i l o hx
        rw [hx] at hv; simp only [V] at hv; obtain ⟨b, _, hh⟩ := hv; exact ⟨_, hh⟩
      · rename_i c hx
        rw [hx] at hv; simp only [V] at hv; obtain ⟨b, o, hh, _⟩ := hv; exact ⟨_, hh⟩
      · cases e
    obtain ⟨p, hp⟩ := hp
    show (do let x ← asAddr (a.tmps.getD ad Go.undef); loadVar t x : Sem Value).run P w = _
    rw [hp] at h1 ⊢
    simpa [Instr.loadAt, Instr.sureAddr, asAddr] using h1

theorem run_results (r : HRel P m Z h w) {n : Nat} {s : St} {a : Act} (hs : s.2 = h) (he : EnvR P m Z w n s.1 a.tmps) {fn : Func} {v : AVal} (e : finishA P fn s = some v) :
    ∃ u, (results fn a.tmps).run P w = .ok u w ∧ V P m Z w v u := by
  have key : ∀ (l : List ResultVar) (vs : List AVal), mapO (resA P s) l = some vs →
      ∃ us : List Value, (l.mapM (fun rv => (match rv with | .tmp t => pure (a.tmps.getD t Go.undef) | .cell ad t => do loadVar t (← asAddr (a.tmps.getD ad Go.undef)) : Sem Value))).run P w = .ok us w ∧ VS P m Z w vs us := by
    intro l
    induction l with
    | nil => intro vs e; simp [mapO] at e; subst e; exact ⟨[], rfl, VS_nil⟩
    | cons rv l ih =>
      intro vs e
      simp only [mapO] at e
      split at e
      · cases e
      rename_i y hy
      split at e
      · cases e
      rename_i ys hys
      simp at e; subst e
      obtain ⟨u, h1, h2⟩ := run_resA r hs he hy
      obtain ⟨us, h3, h4⟩ := ih ys hys
      exact ⟨u :: us, by simp only [List.mapM_cons, Sem.run_bind, h1, Result.andThen_ok, h3, Sem.run_pure], by simp only [VS]; exact ⟨u, us, rfl, h2, h4⟩⟩
  unfold finishA at e
  split at e
  · rename_i x hx
    simp at e; subst e
    obtain ⟨us, h1, h2⟩ := key _ _ hx
    have hl := h2.length
    cases us with
    | nil => simp at hl
    | cons u us' =>
      cases us' with
      | cons _ _ => simp at hl
      | nil =>
        simp only [VS] at h2
        obtain ⟨u', vs', hh, h3, _⟩ := h2
        simp at hh; obtain ⟨rfl, _⟩ := hh
        refine ⟨u, ?_, h3⟩
        unfold results
        rw [Array.mapM_eq_mapM_toList]
        simp only [Sem.run_bind, Sem.run_map]
        erw [h1]
        rfl
  · rename_i vs hne hx
    simp at e; subst e
    obtain ⟨us, h1, h2⟩ := key _ _ hx
    have hl := h2.length
    refine ⟨.tuple us.toArray, ?_, by simp only [V]; exact ⟨us, rfl, h2⟩⟩
    unfold results
    rw [Array.mapM_eq_mapM_toList]
    simp only [Sem.run_bind, Sem.run_map]
    erw [h1]
    have : us.toArray.size ≠ 1 := by
      intro h1
      simp at h1
      rw [h1] at hl
      match vs, hl, hne with
      | [x], _, hne => exact hne x rfl
    simp only [Result.andThen_ok, Sem.run_pure]
    rw [dif_neg this]
  · cases e

/-! ### what a call gives, told without its rows -/
theorem chunk_length (sz n : Nat) (l : List AVal) : (chunk sz n l).length = n := by
  induction n generalizing l with
  | zero => rfl
  | succ n ih => simp [chunk, ih]

theorem VR_chunk {m0 : Nat → Option Nat} {sz b : Nat} : ∀ (n : Nat) {cs : List AVal} {us : List Value} {o : Nat}, cs.length = n * sz → VS P m0 Z w cs us → AtMem w b o us → VR P m0 Z w sz (chunk sz n cs) b o
  | 0, cs, us, o, _, _, _ => by simp only [chunk, VR]
  | n + 1, cs, us, o, hl, hv, hm => by
    rw [Nat.succ_mul] at hl
    simp only [chunk, VR]
    exact ⟨by simp; omega, VC.of_mem (hv.take sz) (hm.take sz), VR_chunk n (by simp; omega) (hv.drop sz) (hm.drop sz)⟩

/-- the names that are left -/
def cutNm (n : Nat) (m : Nat → Option Nat) : Nat → Option Nat := fun l => if l < n then m l else none
/-- the rows that stay from now on -/
def cutZ (n : Nat) (m : Nat → Option Nat) (h : Heap) (Z : Nat → Prop) : Nat → Prop := fun b => Z b ∨ ∃ l blk, n ≤ l ∧ hget h l = some blk ∧ m l = some b

theorem mapO_V {f : AVal → Option AVal} {m0 m1 : Nat → Option Nat} {Z0 Z1 : Nat → Prop} (hf : ∀ {a b v}, f a = some b → V P m0 Z0 w a v → V P m1 Z1 w b v) : ∀ {as bs : List AVal} {vs : List Value}, mapO f as = some bs → VS P m0 Z0 w as vs → VS P m1 Z1 w bs vs
  | [], bs, vs, e, hv => by simp [mapO] at e; subst e; simpa only [VS] using hv
  | a :: as, bs, vs, e, hv => by
    simp only [mapO] at e
    split at e
    · cases e
    rename_i y hy
    split at e
    · cases e
    rename_i ys hys
    simp at e; subst e
    simp only [VS] at hv ⊢
    obtain ⟨v, vs', rfl, h1, h2⟩ := hv
    exact ⟨v, vs', rfl, hf hy h1, mapO_V hf hys h2⟩

theorem mapO_length {α β : Type} {f : α → Option β} : ∀ {as : List α} {bs : List β}, mapO f as = some bs → bs.length = as.length
  | [], bs, e => by simp [mapO] at e; subst e; rfl
  | a :: as, bs, e => by
    simp only [mapO] at e
    split at e
    · cases e
    split at e
    · cases e
    rename_i ys hys
    simp at e; subst e
    simp [mapO_length hys]

theorem frz_V' (r : ∀ l blk, hget h l = some blk → ∃ b, m l = some b ∧ RowAt P m Z w blk b) {n : Nat} : ∀ (d : Nat) {top : Bool} {a b : AVal} {v : Value}, frz P d top n h a = some b → V P m Z w a v → V P (if top then cutNm n m else nm0) (cutZ n m h Z) w b v
  | 0, top, a, b, v, e, hv => by simp [frz] at e
  | d + 1, top, a, b, v, e, hv => by
    have st : Stays nm0 Z w (if top then cutNm n m else nm0) (cutZ n m h Z) w := ⟨(fun _ _ e => by cases e), fun _ z => .inl z, fun _ _ _ => rfl, fun _ _ e => e⟩
    simp only [frz] at e
    split at e
    · rename_i l off len cap
      split at e
      · rename_i hl
        split at e
        · rename_i ht; subst ht
          simp at e; subst e
          simp only [V] at hv ⊢
          obtain ⟨b, ad, cp, h1, h2, h3, h4, h5, h6⟩ := hv
          exact ⟨b, ad, cp, by simp [cutNm, hl, h1], h2, h3, h4, h5, h6⟩
        · cases e
      · rename_i hl
        split at e
        · cases e
        rename_i blk hblk
        split at e
        · cases e
        rename_i sz hsz
        split at e
        case isFalse => cases e
        rename_i hle
        split at e
        case h_2 => cases e
        rename_i cs hcs
        simp at e; subst e
        simp only [V] at hv
        obtain ⟨b, ad, cp, h1, rfl, h3, h4, h5, h6⟩ := hv
        obtain ⟨b', hb', row⟩ := r l blk hblk
        rw [h1] at hb'; simp at hb'; subst hb'
        obtain ⟨us, k1, k2⟩ := row.mem
        have k3 : VS P m Z w ((blk.cells.drop off).take (len * sz)) ((us.drop off).take (len * sz)) := (k1.drop off).take _
        have k4 := mapO_V (m0 := m) (Z0 := Z) (fun {a b v} (he : frz P d false n h a = some b) hv => by have := frz_V' r d he hv; simpa using this) hcs k3
        have k5 : AtMem w b off ((us.drop off).take (len * sz)) := by
          have := (k2.drop off).take (len * sz)
          rwa [Nat.zero_add] at this
        have hcl : cs.length = len * sz := by rw [mapO_length hcs]; simp; omega
        simp only [V]
        rw [chunk_length]
        refine ⟨some ad, cp, rfl, h3, rfl, (fun hn => by cases hn), fun hne => ?_⟩
        have hlen : len ≠ 0 := fun h0 => hne (by subst h0; rfl)
        rw [h4 (by omega)]
        exact ⟨b, off, sz, rfl, .inr ⟨l, blk, by omega, hblk, h1⟩, VR_chunk len hcl k4 k5⟩
    · rename_i l o
      split at e
      case isFalse => cases e
      rename_i hc
      obtain ⟨ht, hl⟩ := hc
      subst ht
      simp at e; subst e
      simp only [V] at hv ⊢
      obtain ⟨b, h1, h2⟩ := hv
      exact ⟨b, by simp [cutNm, hl, h1], h2⟩
    · rename_i f x y
      split at e
      · rename_i ht; subst ht
        split at e
        case h_2 => cases e
        rename_i x' y' hx hy
        simp at e; subst e
        simp only [V] at hv ⊢
        obtain ⟨fs, cs, rfl, h1, h2⟩ := hv
        exact ⟨fs, cs, rfl, mapO_V (fun he hv => by have := frz_V' r d he hv; simpa using this) hx h1, mapO_V (fun he hv => by have := frz_V' r d he hv; simpa using this) hy h2⟩
      · split at e
        case isFalse => cases e
        rename_i hc
        simp at hc
        obtain ⟨rfl, rfl⟩ := hc
        simp at e; subst e
        simp only [V] at hv ⊢
        obtain ⟨fs, cs, rfl, h1, h2⟩ := hv
        exact ⟨fs, cs, rfl, by simpa only [VS] using h1, by simpa only [VS] using h2⟩
    · cases e
    · rename_i cs
      split at e
      case isFalse => cases e
      rename_i ht; subst ht
      simp only [Option.map_eq_some_iff] at e
      obtain ⟨cs', hcs, rfl⟩ := e
      simp only [V] at hv ⊢
      obtain ⟨us, rfl, h1⟩ := hv
      exact ⟨us, rfl, mapO_V (fun he hv => by have := frz_V' r d he hv; simpa using this) hcs h1⟩
    · rename_i cs
      split at e
      case isFalse => cases e
      rename_i ht; subst ht
      simp only [Option.map_eq_some_iff] at e
      obtain ⟨cs', hcs, rfl⟩ := e
      simp only [V] at hv ⊢
      obtain ⟨us, rfl, h1⟩ := hv
      exact ⟨us, rfl, mapO_V (fun he hv => by have := frz_V' r d he hv; simpa using this) hcs h1⟩
    · rename_i n1 n2 n3 ny n4 n5
      simp at e; subst e
      cases a with
      | own _ _ _ _ => exact (n1 _ _ _ _ rfl).elim
      | func _ _ _ => exact (n3 _ _ _ rfl).elim
      | agg _ => exact (n4 _ rfl).elim
      | yld _ => exact (ny _ rfl).elim
      | tup _ => exact (n5 _ rfl).elim
      | ptr p => cases p with
        | none => simpa only [V] using hv
        | some p => exact (n2 p.1 p.2 rfl).elim
      | undef | bool _ | int _ _ | str _ | nilFunc => simpa only [V] using hv
      | cref cs =>
        simp only [V] at hv ⊢
        obtain ⟨b, o, h1, h2, h3⟩ := hv
        exact ⟨b, o, h1, .inl h2, VC.stays (Stays.nm0 st) h2 h3⟩
      | lst isNil xs =>
        simp only [V] at hv ⊢
        obtain ⟨bs, cp, h1, h2, h3, h4, h5⟩ := hv
        refine ⟨bs, cp, h1, h2, h3, h4, fun hne => ?_⟩
        obtain ⟨b, o, sz, q1, q2, q3⟩ := h5 hne
        exact ⟨b, o, sz, q1, .inl q2, VR.stays (Stays.nm0 st) q2 q3⟩

theorem frz_V (r : HRel P m Z h w) {n : Nat} (d : Nat) {top : Bool} {a b : AVal} {v : Value} (e : frz P d top n h a = some b) (hv : V P m Z w a v) : V P (if top then cutNm n m else nm0) (cutZ n m h Z) w b v :=
  frz_V' r.row d e hv

/-! ### whole calls -/
/-- what is handed in as known of other functions -/
def ExtOK (C : Cfg) : Prop := ∀ f g, C.ext f = some g → ∀ args h v, g args h = some v → ∀ base m Z w us, HRel C.P m Z h w → VS C.P m Z w args us →
  Calls C.P f us.toArray w (Leaves C.P base m Z h w v h)

theorem keep_below {n : Nat} {m' : Nat → Option Nat} {Z' : Nat → Prop} {w' : World} (r : HRel P m Z h w) (r' : HRel P m' Z' h' w') (s : Step n none noLb m Z h w m' Z' h' w') (hn : n = h.length) :
    HRel P (cutNm n m') (cutZ n m' h' Z') h w' ∧ Step base none noLb m Z h w (cutNm n m') (cutZ n m' h' Z') h w' := by
  have hk : ∀ l blk, hget h l = some blk → hget h' l = some blk ∧ l < n := fun l blk e => by
    have := hget_lt e
    exact ⟨by rw [s.keep l (by omega)]; exact e, by omega⟩
  have hcut : ∀ l b, cutNm n m' l = some b → m' l = some b ∧ l < n := fun l b e => by
    unfold cutNm at e; split at e
    · exact ⟨e, by assumption⟩
    · cases e
  have S : Step base none noLb m Z h w (cutNm n m') (cutZ n m' h' Z') h w' := by
    refine ⟨s.os, s.tape, s.output, s.size, fun l b e => ?_, fun b z => .inl (s.zz b z), fun b hb _ hlb => s.fr b hb (fun l blk hl e => ?_) hlb, s.shp, fun _ _ => rfl, Nat.le_refl _, fun l blk b hl e e' => ?_, fun l hl _ => ?_, s.zc, fun b hz => ?_⟩
    · have := (r.dom l b e).1
      unfold cutNm; rw [if_pos (by omega)]; exact s.mm l b e
    · have := hget_lt e; omega
    · obtain ⟨h1, h2⟩ := hcut l b e'
      obtain ⟨b0, hb0, _⟩ := r.row l blk e
      have := s.mm l b0 hb0
      rw [h1] at this; simp at this; subst this
      exact .inr ⟨l, blk, hl, e, hb0⟩
    rotate_left
    · rcases hz with hz | ⟨l2, blk2, g1, g2, g3⟩
      · exact s.zn b hz
      · rcases s.foot l2 blk2 b g1 g2 g3 with h1 | ⟨l0, blk0, h1, h2, _⟩
        · exact .inr h1
        · have := hget_lt h2; omega
    · unfold cutNm; rw [if_pos (by omega)]; exact s.mo l hl (by simp)
  refine ⟨⟨fun l blk e => ?_, fun l l' blk blk' b e e' e1 e2 => ?_, fun l blk b e e1 => ?_, fun l b e => ?_, fun b hz => ?_⟩, S⟩
  · obtain ⟨b, hb, row⟩ := r.row l blk e
    have hb' : cutNm n m' l = some b := S.mm l b hb
    refine ⟨b, hb', ?_⟩
    obtain ⟨b', hb'', ⟨us, rest, fz, k1, k2, k3, k4⟩, k5⟩ := r'.row l blk (hk l blk e).1
    rw [(hcut l b hb').1] at hb''; simp at hb''; subst hb''
    -- the row stands as it stood: its values by the elder reading
    obtain ⟨⟨us0, rest0, fz0, q1, q2, q3, q4⟩, q5⟩ := row
    have hsame : w'.heap[b]? = w.heap[b]? := s.fr b (r.dom l b hb).2 (fun l2 blk2 hl2 e2 => by have := hget_lt e2; omega) (fun h => h)
    exact ⟨⟨us0, rest0, fz0, hsame.trans q1, VS.stays (S.stays r) q2, q3, q4⟩, q5⟩
  · exact r'.inj l l' blk blk' b (hk _ _ e).1 (hk _ _ e').1 (hcut _ _ e1).1 (hcut _ _ e2).1
  · intro hz
    obtain ⟨h1, h2⟩ := hk l blk e
    obtain ⟨h3, _⟩ := hcut l b e1
    rcases hz with hz | ⟨l2, blk2, g1, g2, g3⟩
    · exact r'.apart l blk b h1 h3 hz
    · have := r'.inj l l2 blk blk2 b h1 g2 h3 g3
      omega
  · obtain ⟨h1, h2⟩ := hcut l b e
    exact ⟨by omega, (r'.dom l b h1).2⟩
  · rcases hz with hz | ⟨l2, blk2, g1, g2, g3⟩
    · exact r'.zdom b hz
    · exact (r'.dom l2 b g3).2

theorem doCall_ok {rn : Caller} (hE : ExtOK C) (hrn : CallOK C.P rn) : CallOK C.P (doCall C rn) := by
  intro base f args h v h' e m Z w us r hb hv
  unfold doCall at e
  split at e
  · rename_i g hg
    split at e
    case h_2 => cases e
    rename_i x hx
    simp at e; obtain ⟨rfl, rfl⟩ := e
    exact hE f g hg args h x hx base m Z w us r hv
  · split at e
    · split at e
      case h_2 => cases e
      rename_i x h1 hr
      split at e
      case h_2 => cases e
      rename_i u hu
      simp at e; obtain ⟨rfl, rfl⟩ := e
      refine (hrn _ f args h x h1 hr m Z w us r (Nat.le_refl _) hv).mono fun e' w' hl => ?_
      obtain ⟨y, m', Z', rfl, q1, q2, q3⟩ := hl
      obtain ⟨k1, k2⟩ := keep_below (base := base) r q2 q3 rfl
      have := frz_V q2 9 hu q1
      exact ⟨y, _, _, rfl, this, k1, k2⟩
    · refine (hrn _ f args h v h' e m Z w us r (Nat.le_refl _) hv).mono fun e' w' hl => ?_
      obtain ⟨y, m', Z', rfl, q1, q2, q3⟩ := hl
      exact ⟨y, _, _, rfl, q1, q2, q3.mono r hb⟩
    · exact hrn _ f args h v h' e m Z w us r hb hv
    · cases e

theorem VS.getX {as : List AVal} {vs : List Value} (hv : VS P m Z w as vs) (i : Nat) : V P m Z w (Go.Abs.getX as i) ((vs[i]?).getD Go.undef) := by
  induction as generalizing vs i with
  | nil => simp only [VS] at hv; subst hv; simp [Go.Abs.getX, V]
  | cons a as ih =>
    simp only [VS] at hv
    obtain ⟨v, vs', rfl, h1, h2⟩ := hv
    cases i with
    | zero => simpa [Go.Abs.getX] using h1
    | succ i => simpa [Go.Abs.getX] using ih h2 i

theorem runA_ok (hE : ExtOK C) (hX : ExtFrame C) (hN : Named C.P) (hm : C.P.follows .mixedOrders = true) : ∀ n, CallOK C.P (runA C n)
  | 0 => fun base f args h v h' e => by simp [runA] at e
  | n + 1 => fun base f args h v h' e m Z w us r hb hv => by
    simp only [runA] at e
    split at e
    · cases e
    rename_i fn hf
    split at e
    · cases e
    rename_i c hc
    split at e
    · cases e
    rename_i hlen
    have ih := doCall_ok hE (runA_ok hE hX hN hm n)
    have hl := hv.length
    have he : EnvR C.P m Z w fn.ntmps args (us.toArray ++ Array.replicate (fn.ntmps - us.toArray.size) Go.undef) := by
      refine ⟨by simp; omega, fun i => ?_⟩
      have := hv.getX i
      rw [Array.getD_eq_getD_getElem?, Array.getElem?_append]
      split
      · simpa using this
      · rename_i hi
        rw [List.getElem?_eq_none (by simpa using hi)] at this
        rw [Array.getElem?_replicate]
        split
        · exact this
        · exact this
    have fin : ∀ {x : Ex} {s : St}, execA C (doCall C (runA C n)) n base fn.ntmps c (args, h) = some (x, s) → (∀ i, x ≠ .exit i) → ∀ {y}, finishA C.P fn s = some y → (y, s.2) = (v, h') → Calls C.P f us.toArray w (Leaves C.P base m Z h w v h') := by
      intro x s hx hne y hy hyv
      simp only [Prod.mk.injEq] at hyv
      obtain ⟨rfl, rfl⟩ := hyv
      refine calls_of_wp hf hc (wpIn_wide (n := 0).1 ?_)
      refine Go.wpIn_mono (execA_wp (ρ := none) (a := { tmps := us.toArray ++ Array.replicate (fn.ntmps - us.toArray.size) Go.undef, defers := [] }) ih hN rfl hm (doCall_frame hX (runA_frame hX n)) (doCall_kept (runA_kept n)) (fun _ _ _ _ _ _ e ht => doCall_touch (runA_kept n) e ht) r he hb hx) fun e' a' w' hq => ?_
      obtain ⟨hxm, m', Z', k1, k2, k3, k4⟩ := hq
      obtain ⟨u, h1, h2⟩ := run_results k3 rfl k1 hy
      cases x with
      | exit i => exact absurd rfl (hne i)
      | normal =>
        cases e' <;> first | exact hxm.elim | skip
        exact ⟨k2, u, h1, u, m', Z', rfl, h2, k3, k4⟩
      | ret =>
        cases e' <;> first | exact hxm.elim | skip
        exact ⟨k2, u, h1, u, m', Z', rfl, h2, k3, k4⟩
    split at e
    · cases e
    · rename_i x s hne hx
      split at e
      case h_2 => cases e
      rename_i y hy
      simp only [Option.some.injEq] at e
      exact fin hx (fun i hi => hne i hi) hy e
    · cases e

/-- a call that gives v, from nothing: what lay before lies as it lay -/
theorem runA_pure (hE : ExtOK C) (hX : ExtFrame C) (hN : Named C.P) (hm : C.P.follows .mixedOrders = true) {n f : Nat} {args : List AVal} {v : AVal} {h' : Heap} (e : runA C n 0 f args [] = some (v, h')) {Z : Nat → Prop} {w : World} {us : List Value}
    (hz : ∀ b, Z b → b < w.heap.size) (hv : VS C.P nm0 Z w args us) :
    Calls C.P f us.toArray w fun e' w' => ∃ u m' Z', e' = .returned u ∧ V C.P m' Z' w' v u ∧ w'.os = w.os ∧ w'.tape = w.tape ∧ w'.output = w.output ∧ w.heap.size ≤ w'.heap.size ∧ ∀ b, b < w.heap.size → w'.heap[b]? = w.heap[b]? := by
  have r : HRel C.P nm0 Z [] w := ⟨fun l blk e => by simp [hget] at e, fun l l' blk blk' b e => by simp [hget] at e, fun l blk b e => by simp [hget] at e, (fun l b e => by cases e), hz⟩
  refine (runA_ok hE hX hN hm n 0 f args [] v h' e nm0 Z w us r (Nat.le_refl _) hv).mono fun e' w' hl => ?_
  obtain ⟨u, m', Z', rfl, h1, h2, h3⟩ := hl
  exact ⟨u, m', Z', rfl, h1, h3.os, h3.tape, h3.output, h3.size, fun b hb => h3.fr b hb (fun l blk _ e => by simp [hget] at e) (fun h => h)⟩
end Go.Abs
