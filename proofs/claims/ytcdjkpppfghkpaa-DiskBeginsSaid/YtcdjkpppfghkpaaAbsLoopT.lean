import Derived.Test.YtcdjkpppfghkpaaAbsLoopY
import Derived.Test.YtcdjkpppfghkpaaAbsCall
section
/-
  The machine with loops against the model's: a range over a function.
-/
set_option linter.unusedSimpArgs false
set_option linter.unusedVariables false
namespace Go.Abs
open Go

variable {κ : Nat} {C : Cfg} {P : Program} {m m' m'' : Nat → Option Nat} {Z Z' Z'' : Nat → Prop} {h h' h'' : Heap} {w w' w'' : World} {base : Nat} {slot : Option Nat} {lb lb1 lb2 : Nat → Prop}

theorem begun_L {L : LS} (r : HRel P m Z h w) (l : LRel P m Z L w) {n : Nat} {env : List AVal} {a : Act} (he : EnvR P m Z w n env a.tmps) (fn : FuncId) (ps : Array Tmp) (assign body : Code) :
    LRel P (nmB m h w) (zB Z w) (⟨h.length, n, env, ps.toList, assign, body, none⟩ :: L) (begun w fn a.tmps ps assign body) := by
  have st := begun_step (base := 0) r (fn := fn) (tmps := a.tmps) (ps := ps) (assign := assign) (body := body)
  have l' := l.step r st fun _ _ hh => hh
  refine ⟨fun x hx => ?_, List.pairwise_cons.2 ⟨fun x hx => ?_, l'.apart⟩⟩
  · rcases List.mem_cons.1 hx with rfl | hx
    · exact ⟨_, _, by simp [nmB, upd], .inr (.inr rfl), begun_l, rfl, rfl, rfl, he.stays (st.stays r), rfl, rfl⟩
    · exact l'.at_ x hx
  · obtain ⟨b, rec, h1, _⟩ := l.at_ x hx
    have := (r.dom _ _ h1).2
    rw [st.mm _ _ h1]
    simp only [nmB, upd, if_true]
    intro hh
    simp at hh
    omega

/-- a step behind a step: of the blocks that the second may turn, those that lay there ahead of the first -/
theorem Step.transLb (s : Step base slot lb1 m Z h w m' Z' h' w') (t : Step base slot lb2 m' Z' h' w' m'' Z'' h'' w'') (hlb : ∀ b, b < w.heap.size → lb2 b → lb1 b) : Step base slot lb1 m Z h w m'' Z'' h'' w'' where
  os := t.os.trans s.os
  tape := t.tape.trans s.tape
  output := t.output.trans s.output
  size := Nat.le_trans s.size t.size
  mm := fun l b e => t.mm l b (s.mm l b e)
  zz := fun b e => t.zz b (s.zz b e)
  zc := fun b o hz => (t.zc b o (s.zz b hz)).trans (s.zc b o hz)
  zn := fun b hz => (t.zn b hz).elim (s.zn b) fun hb => .inr (Nat.le_trans s.size hb)
  fr := fun b hb hn hl => by
    rw [t.fr b (Nat.lt_of_lt_of_le hb s.size) (fun l blk hl e e' => ?_) (fun h2 => hl (hlb b hb h2)), s.fr b hb hn hl]
    rcases s.foot l blk b hl e e' with h1 | ⟨l0, blk0, h1, h2, h3⟩
    · omega
    · exact hn l0 blk0 h1 h2 h3
  shp := fun b x e => t.shp b x (s.shp b x e)
  keep := fun l hl => (t.keep l hl).trans (s.keep l hl)
  len := Nat.le_trans s.len t.len
  foot := fun l blk b hl e e' => by
    rcases t.foot l blk b hl e e' with h1 | ⟨l0, blk0, h1, h2, h3⟩
    · exact .inl (Nat.le_trans s.size h1)
    · exact s.foot l0 blk0 b h1 h2 h3
  mo := fun l hl hs => (t.mo l (Nat.lt_of_lt_of_le hl s.len) hs).trans (s.mo l hl hs)

theorem LRel.tail {x : LRec} {L : LS} (l : LRel P m Z (x :: L) w) : LRel P m Z L w := ⟨fun y hy => l.at_ y (List.mem_cons_of_mem _ hy), (List.pairwise_cons.1 l.apart).2⟩

/-- the head's record is turned: the others stand -/
theorem LRel.put {x : LRec} {L : LS} (r : HRel P m Z h w) (l : LRel P m Z (x :: L) w) {b : Nat} {rec : Loop} (hm : m x.loc = some b) (h1 : w.heap[b]? = some (.loop rec)) (rec' : Loop) : LRel P m Z L (w.putObj b (.loop rec')) := by
  refine l.tail.step r (putLoop_step (base := 0) h1 rec') fun c hc e => ?_
  subst e
  obtain ⟨y, hy, hb⟩ := hc
  exact (List.pairwise_cons.1 l.apart).1 y hy (hm.trans hb.symm)

theorem EnvR.jump {n : Nat} {env : List AVal} {a : Act} (he : EnvR P m Z w n env a.tmps) (st : Stays m Z w m' Z' w') : EnvR P m' Z' w' n env a.tmps := he.stays st

theorem range_ok {cl : LCaller} (hcl : LCallOK P cl) (hN : Named P) (hP : C.P = P) {N n : Nat} : RangeOK κ P C cl N base n none false := by
  subst hP
  intro g ps assign body m Z w h L env a x s r l he k hb e
  simp only [execL, Bool.false_eq_true, if_false] at e
  split at e
  case h_2 => cases e
  rename_i f first captured hg
  split at e
  case isFalse => cases e
  rename_i hbod
  split at e
  case h_2 => cases e
  rename_i v1 h' rc L1 hcall
  refine wpIn_rangeFunc fun fn _ => ?_
  have st := begun_step (base := base) r (fn := fn) (tmps := a.tmps) (ps := ps) (assign := assign) (body := body)
  have r1 := begun_rel r (fn := fn) (tmps := a.tmps) (ps := ps) (assign := assign) (body := body)
  have l1 := begun_L r l he fn ps assign body
  have hD := begun_D (w := w) (fn := fn) (tmps := a.tmps) (ps := ps) (assign := assign) (body := body)
  have hent : (Instr.enterLoop fn a.tmps ps assign body (Fr none).round).run C.P w = .ok (w.heap.size + 1, [{ target := .collected w.heap.size, args := #[] }]) (begun w fn a.tmps ps assign body) := run_enterLoop_outer fn a.tmps ps assign body
  have hsz : (begun w fn a.tmps ps assign body).heap.size = w.heap.size + 2 := begun_size
  generalize begun w fn a.tmps ps assign body = W1 at st r1 l1 hD hent hsz
  have hv := evalA_V he hg
  simp only [V] at hv
  obtain ⟨fs, cs, hpv, hfs, hcs⟩ := hv
  have sy := st.stays r
  have hargs : VS C.P (nmB m h w) (zB Z w) W1 (first ++ [.yld h.length] ++ captured) (fs ++ [.func (.yield (w.heap.size + 1)) #[] #[]] ++ cs) := by
    refine ((VS.stays sy hfs).append ?_).append (VS.stays sy hcs)
    simp only [VS, V]
    exact ⟨_, [], rfl, ⟨w.heap.size + 1, by simp [nmB, upd], rfl⟩, rfl⟩
  have hc := hcl.fn base f _ _ _ _ _ _ hcall _ _ _ _ r1 l1 (by simp; omega) hargs
  have hres : (resolve a.eval (rangeCall g (w.heap.size + 1)) 0).run C.P W1 = .ok { target := .fn (.func f) cs.toArray, args := fs.toArray ++ #[.func (.yield (w.heap.size + 1)) #[] #[]] } W1 := by
    simp only [rangeCall, resolve, hpv, Deferred.ofValue]
    simp [go_sem]
  have hinv : (invoke (.fn (.func f) cs.toArray) (fs.toArray ++ #[Value.func (.yield (w.heap.size + 1)) #[] #[]])).run C.P W1 = .ok (.enter f (fs ++ [Value.func (.yield (w.heap.size + 1)) #[] #[]] ++ cs).toArray) W1 := by
    simp only [invoke]
    rw [run_callFunc' hN hbod]
    congr 2
    apply Array.ext'
    simp
  refine ⟨_, _, W1, _, W1, f, _, W1, hent, hres, fun _ _ => trivial, hinv, fun h => by simp [Fr, Fence.wide] at h, callsIn_Fr (hc.mono fun e' w' hl => ?_)⟩
  obtain ⟨u, m2, Z2, rfl, k1, k2, k3, k4, k5⟩ := hl
  -- the record, as the call has left it
  simp only [List.map_cons, List.cons.injEq] at k4
  obtain ⟨hloc, k4⟩ := k4
  obtain ⟨b, rec, q1, q2, q3, q4, q5, q6, q7, q8, q9⟩ := k3.at_ rc (List.mem_cons_self ..)
  have hb1 : b = w.heap.size + 1 := by
    have : m2 rc.loc = some (w.heap.size + 1) := by rw [hloc]; exact k5.mm _ _ (by simp [nmB, upd])
    rw [q1] at this; simpa using this
  have hend : (Instr.endLoop (w.heap.size + 1)).run C.P w' = .ok (jumpOf rc.jump) (w'.putObj b (.loop { rec with state := .exhausted })) := by
    subst hb1
    have hnb : rec.state ≠ .busy := by rw [q9]; split <;> simp
    rw [run_endLoop q3 hnb, q8]
  have hpl := putLoop_step (base := base) (m := m2) (Z := Z2) (h := h') q3 { rec with state := .exhausted }
  have r3 := k2.putLoop q2 q3 { rec with state := .exhausted }
  have l3 := k3.put k2 q1 q3 { rec with state := .exhausted }
  -- the whole way
  have s1 := st.anyLb (lb := lbOf m L)
  have s2 : Step base none (lbOf m L) m Z h w m2 Z2 h' w' := by
    refine s1.transLb k5 ?_
    · intro c hc hl
      obtain ⟨y, hy, hyb⟩ := hl
      rcases List.mem_cons.1 hy with rfl | hy
      · simp [nmB, upd] at hyb; omega
      · obtain ⟨b0, rec0, z1, _⟩ := l.at_ y hy
        have := st.mm _ _ z1
        rw [this] at hyb; simp at hyb; subst hyb
        exact ⟨y, hy, z1⟩
  have s3 : Step base none (lbOf m L) m Z h w m2 Z2 h' (w'.putObj b (.loop { rec with state := .exhausted })) := by
    refine s2.transLb hpl fun c hc hcb => ?_
    omega
  have hDz : Z2 w.heap.size := k5.zz _ (.inr (.inl rfl))
  have hD' : (w'.putObj b (.loop { rec with state := .exhausted })).heap[w.heap.size]? = some (.deferred (some [])) := by
    rw [World.putObj_heap_other (by omega)]
    rw [k5.fr w.heap.size (by omega) (fun l blk _ e e' => r1.apart l blk _ e e' (.inr (.inl rfl)))]
    · exact hD
    · rintro ⟨y, hy, hyb⟩
      obtain ⟨b0, rec0, z1, _, z3, _⟩ := l1.at_ y hy
      rw [z1] at hyb; simp at hyb; subst hyb
      rw [hD] at z3; cases z3
  have hmk : Marks κ Z2 (w'.putObj b (.loop { rec with state := .exhausted })) ({ target := .collected w.heap.size, args := #[] } :: a.defers) := by
    refine .cons k.size hDz hD' (fun d hd hh => ?_) (k.step l r s3)
    have : ∀ {ds : List Deferred}, Marks κ Z w ds → ∀ d, d ∈ ds → d.target ≠ .collected w.heap.size := by
      intro ds km
      induction km with
      | nil _ => intro d hd; cases hd
      | @cons D ds _ hz hdd hne _ ih =>
        intro d hd
        rcases List.mem_cons.1 hd with rfl | hd
        · intro hh
          simp at hh
          have := r.zdom D hz
          omega
        · exact ih d hd
    exact this k d hd hh
  have fin : ∀ {x : Ex} {e : Exit}, ExM x e → EndsL κ C.P base n m Z h L w x (env, h', L1) e { a with defers := [{ target := .collected w.heap.size, args := #[] }] ++ a.defers } (w'.putObj b (.loop { rec with state := .exhausted })) := by
    intro x e hx
    exact ⟨hx, m2, Z2, he.stays (s3.stays r), hmk, r3, l3, k4, s3⟩
  refine ⟨_, _, hend, ?_⟩
  split at e
  · rename_i hj
    simp at e; obtain ⟨rfl, rfl⟩ := e
    rw [hj]
    exact fin trivial
  · cases e
  · rename_i y hn hj
    simp at e; obtain ⟨rfl, rfl⟩ := e
    rw [hj]
    cases y with
    | normal => exact absurd rfl hn
    | exit i => exact wpIn_exit (fin rfl)
    | ret => exact wpIn_ret (fin trivial)

theorem range_in {cl : LCaller} {N n : Nat} {ρ : Option Nat} : RangeOK κ P C cl N base n ρ true := by
  intro g ps assign body m Z w h L env a x s r l he k hb e
  simp [execL] at e
end Go.Abs
end
section
/-
  The machine with loops against the model's: a round; whole calls.
-/
set_option linter.unusedSimpArgs false
set_option linter.unusedVariables false
namespace Go.Abs
open Go

variable {κ : Nat} {ρ : Option Nat} {C : Cfg} {P : Program} {m m' m'' : Nat → Option Nat} {Z Z' Z'' : Nat → Prop} {h h' h'' : Heap} {w w' w'' : World} {base : Nat} {slot : Option Nat} {lb lb1 lb2 : Nat → Prop}

theorem Step.lbMono (s : Step base slot lb1 m Z h w m' Z' h' w') (hlb : ∀ b, lb1 b → lb2 b) : Step base slot lb2 m Z h w m' Z' h' w' :=
  ⟨s.os, s.tape, s.output, s.size, s.mm, s.zz, fun b h1 h2 h3 => s.fr b h1 h2 (fun h => h3 (hlb b h)), s.shp, s.keep, s.len, s.foot, s.mo, s.zc, s.zn⟩

theorem putPs_len {n : Nat} : ∀ {env : List AVal} {ps : List Nat} {vs env' : List AVal}, putPs n env ps vs = some env' → vs.length = ps.length
  | env, [], [], env', e => rfl
  | env, p :: ps, v :: vs, env', e => by
    simp only [putPs] at e
    split at e
    · simp [putPs_len e]
    · cases e
  | env, [], _ :: _, env', e => by simp [putPs] at e
  | env, _ :: _, [], env', e => by simp [putPs] at e

theorem putPs_R {n : Nat} : ∀ {env : List AVal} {ps : List Nat} {vs env' : List AVal} {us : List Value} {tmps : Array Value}, putPs n env ps vs = some env' → EnvR P m Z w n env tmps → VS P m Z w vs us →
    EnvR P m Z w n env' ((ps.zip us).foldl (fun tmps (p : Nat × Value) => tmps.setIfInBounds p.1 p.2) tmps)
  | env, [], [], env', us, tmps, e, he, hv => by simp [putPs] at e; subst e; simpa using he
  | env, p :: ps, v :: vs, env', us, tmps, e, he, hv => by
    simp only [putPs] at e
    split at e
    case isFalse => cases e
    rename_i hp
    simp only [VS] at hv
    obtain ⟨u, us', rfl, h1, h2⟩ := hv
    simp only [List.zip_cons_cons, List.foldl_cons]
    refine putPs_R e ?_ h2
    have := EnvR.put (a := { tmps := tmps, defers := [] }) (dst := some p) (env' := setX env p v) he (by simp [putA, hp]) h1
    simpa [Act.put] using this
  | env, [], _ :: _, env', us, tmps, e, he, hv => by simp [putPs] at e
  | env, _ :: _, [], env', us, tmps, e, he, hv => by simp [putPs] at e

/-- a record that is none of these loops' is turned -/
theorem LRel.other {L : LS} (r : HRel P m Z h w) (l : LRel P m Z L w) {b : Nat} {rec : Loop} (hne : ¬ lbOf m L b) (h1 : w.heap[b]? = some (.loop rec)) (rec' : Loop) : LRel P m Z L (w.putObj b (.loop rec')) := by
  refine l.step r (putLoop_step (base := 0) h1 rec') fun c hc e => ?_
  subst e
  exact hne hc

theorem Marks.step' {ds : List Deferred} (k : Marks κ Z w ds) (r : HRel P m Z h w) (s : Step base slot lb m Z h w m' Z' h' w') (hlb : ∀ c, lb c → ∃ rec, w.heap[c]? = some (.loop rec)) : Marks κ Z' w' ds := by
  induction k with
  | nil hk => exact .nil (Nat.le_trans hk s.size)
  | @cons D ds hk hz hd hne _ ih =>
    refine .cons hk (s.zz _ hz) ?_ hne ih
    rw [s.fr D (r.zdom D hz) (fun l blk _ e e' => r.apart l blk D e e' hz) fun hc => ?_]
    · exact hd
    · obtain ⟨rec, h3⟩ := hlb D hc
      rw [hd] at h3; cases h3

theorem lbOf_cons {x : LRec} {L : LS} {b : Nat} (hb : lbOf m L b) : lbOf m (x :: L) b := by
  obtain ⟨y, hy, h1⟩ := hb
  exact ⟨y, List.mem_cons_of_mem _ hy, h1⟩

theorem round_ok {cl : LCaller} (hcl : LCallOK P cl) (hN : Named P) (hP : C.P = P) (hm : P.follows .mixedOrders = true) (hF : LFrame cl) (hK : LKept cl) (hT : CallTouch C (plainC cl)) {k : Nat} {L0 : LS} {r : LRec} {args : List AVal} {us : List Value} {v : AVal} {L' : LS}
    (hr : HRel P m Z h w) (hl : LRel P m Z (r :: L0) w) (hb : base ≤ h.length) (hj : r.jump.isNone = true) (hv : VS P m Z w args us) {b : Nat} (hmb : m r.loc = some b)
    (e : (match putPs r.n r.env r.ps args with
      | none => none
      | some env => match execL C cl k base r.n true r.assign (env, h, L0) with
        | some (.normal, s1) => match execL C cl k base r.n true r.body s1 with
          | some (.normal, (_, h2, L2)) => some (.bool true, h2, { r with jump := none } :: L2)
          | some (x, (_, h2, L2)) => some (.bool false, h2, { r with jump := some x } :: L2)
          | none => none
        | _ => none) = some (v, h', L')) :
    ∃ rec, w.heap[b]? = some (.loop rec) ∧ us.length = rec.params.size ∧
      ∀ ρ, RoundIn (Fr ρ) 0 P b rec.fn ((rec.params.zip us.toArray).foldl (fun tmps (t, a) => tmps.setIfInBounds t a) rec.tmps) rec.assign rec.body w (LeavesL P base m Z h (r :: L0) w v h' L') := by
  split at e
  · cases e
  rename_i env henv
  split at e
  case h_2 => cases e
  rename_i s1 hex1
  obtain ⟨b0, rec, q1, q2, q3, q4, q5, q6, q7, q8, q9⟩ := hl.at_ r (List.mem_cons_self ..)
  rw [hmb] at q1; simp at q1; subst q1
  rw [if_pos hj] at q9
  have hlen : us.length = rec.params.size := by rw [hv.length, putPs_len henv, ← q4, Array.length_toList]
  refine ⟨rec, q3, hlen, fun ρ => ?_⟩
  have hl0 := hl.tail
  have hne : ∀ {m1 : Nat → Option Nat} {L1 : LS}, (∀ l b, m l = some b → m1 l = some b) → L1.map (·.loc) = L0.map (·.loc) → ¬ lbOf m1 L1 b := by
    intro m1 L1 hmm hL hlb
    rw [lbOf_same hl0 hmm hL] at hlb
    obtain ⟨y, hy, hyb⟩ := hlb
    exact (List.pairwise_cons.1 hl.apart).1 y hy (hmb.trans hyb.symm)
  have he0 : EnvR P m Z w r.n env ((rec.params.zip us.toArray).foldl (fun tmps (t, a) => tmps.setIfInBounds t a) rec.tmps) := by
    have := putPs_R henv q7 hv
    rw [← q4] at this
    rw [← Array.foldl_toList]
    simpa using this
  refine roundIn_of_wpIn trivial ?_
  rw [q5, q6]
  obtain ⟨env1, h1, L1⟩ := s1
  have w1 := execL_wp (κ := w.heap.size) (ρ := some b) (a := { tmps := (rec.params.zip us.toArray).foldl (fun tmps (t, a) => tmps.setIfInBounds t a) rec.tmps, defers := [] }) hcl hN hP hm hF hK hT range_in hr hl0 he0 (.nil (Nat.le_refl _)) hb hex1
  refine Go.wpIn_mono w1 fun e' a1 v1 hq => ?_
  obtain ⟨hx, m1, Z1, k1, k2, k3, k4, k5, k6⟩ := hq
  cases e' <;> first | exact hx.elim | skip
  have hbz1 : Z1 b := k6.zz _ q2
  have hrec1 : v1.heap[b]? = some (.loop rec) := by
    rw [k6.fr b (hr.zdom b q2) (fun l blk _ e e' => hr.apart l blk b e e' q2) (hne (fun _ _ e => e) rfl)]
    exact q3
  refine ⟨_, run_beginRound hrec1 q9, ?_⟩
  have p1 := putLoop_step (base := base) (m := m1) (Z := Z1) (h := h1) hrec1 { rec with state := .busy }
  have r1 := k3.putLoop hbz1 hrec1 { rec with state := .busy }
  have l1 := k4.other k3 (hne k6.mm k5) hrec1 { rec with state := .busy }
  have s1 : Step base none (lbOf m (r :: L0)) m Z h w m1 Z1 h1 (v1.putObj b (.loop { rec with state := .busy })) :=
    (k6.lbMono fun c hc => lbOf_cons hc).transLb p1 fun c _ hc => by subst hc; exact ⟨r, List.mem_cons_self .., hmb⟩
  have mk1 := k2.step' k3 p1 fun c hc => by subst hc; exact ⟨_, hrec1⟩
  have he1 := k1.stays (p1.stays k3)
  have hrec2 : (v1.putObj b (.loop { rec with state := .busy })).heap[b]? = some (.loop { rec with state := .busy }) := by
    rw [World.putObj_heap_same (k3.zdom b hbz1)]
  generalize v1.putObj b (.loop { rec with state := .busy }) = v2 at p1 r1 l1 s1 hrec2 he1 mk1
  cases hex2 : execL C cl k base r.n true r.body (env1, h1, L1) with
  | none => rw [hex2] at e; cases e
  | some q =>
    obtain ⟨x2, env2, h2, L2⟩ := q
    rw [hex2] at e
    have w2 := execL_wp (ρ := some b) (a := a1) hcl hN hP hm hF hK hT range_in r1 l1 he1 mk1 (Nat.le_trans hb s1.len) hex2
    refine Go.wpIn_mono w2 fun e2 a2 v3 hq2 => ?_
    obtain ⟨hx2, m2, Z2, j1, j2, j3, j4, j5, j6⟩ := hq2
    have hbz2 : Z2 b := j6.zz _ hbz1
    have hmm : ∀ l c, m l = some c → m2 l = some c := fun l c e => j6.mm _ _ (s1.mm _ _ e)
    have hne1 : ¬ lbOf m1 L1 b := hne k6.mm k5
    have hne2 : ¬ lbOf m2 L2 b := hne hmm (j5.trans k5)
    have hrec3 : v3.heap[b]? = some (.loop { rec with state := .busy }) := by
      rw [j6.fr b (r1.zdom b hbz1) (fun l blk _ e e' => r1.apart l blk b e e' hbz1) hne1]
      exact hrec2
    have s2 : Step base none (lbOf m (r :: L0)) m Z h w m2 Z2 h2 v3 := s1.transLb j6 fun c _ hc => by
      rw [lbOf_same hl0 k6.mm k5] at hc
      exact lbOf_cons hc
    have fin : ∀ (jp : Option Ex) (jc : Option Code), jumpOf jp = jc → jp.isNone = jc.isNone → LeavesL P base m Z h (r :: L0) w (.bool jp.isNone) h2 ({ r with jump := jp } :: L2) (.returned (.bool jc.isNone)) (v3.putObj b (.loop { rec with state := if jc.isNone then .ready else .done, pending := jc })) := by
      intro jp jc hjc hjn
      have p3 := putLoop_step (base := base) (m := m2) (Z := Z2) (h := h2) hrec3 { rec with state := if jc.isNone then .ready else .done, pending := jc }
      have r3 := j3.putLoop hbz2 hrec3 { rec with state := if jc.isNone then .ready else .done, pending := jc }
      have l3 := j4.other j3 hne2 hrec3 { rec with state := if jc.isNone then .ready else .done, pending := jc }
      have s3 := s2.transLb p3 fun c _ hc => by subst hc; exact ⟨r, List.mem_cons_self .., hmb⟩
      refine ⟨_, m2, Z2, rfl, by simp only [V]; rw [hjn], r3, ⟨fun y hy => ?_, List.pairwise_cons.2 ⟨fun y hy => ?_, l3.apart⟩⟩, by simp [j5, k5], s3⟩
      · rcases List.mem_cons.1 hy with rfl | hy
        · exact ⟨b, { rec with state := if jc.isNone then .ready else .done, pending := jc }, hmm _ _ hmb, hbz2, by rw [World.putObj_heap_same (j3.zdom b hbz2)], q4, q5, q6, q7.stays (s3.stays hr), hjc.symm, by rw [hjn]⟩
        · exact l3.at_ y hy
      · intro hh
        exact hne2 ⟨y, hy, by rw [← hh]; exact hmm _ _ hmb⟩
    cases x2 with
    | normal =>
      cases e2 <;> first | exact hx2.elim | skip
      simp only [Option.some.injEq, Prod.mk.injEq] at e
      obtain ⟨rfl, rfl, rfl⟩ := e
      exact ⟨_, _, run_endRound none hrec3, fin none none rfl rfl⟩
    | exit i =>
      cases e2 <;> first | exact hx2.elim | skip
      obtain rfl : i = _ := hx2
      simp only [Option.some.injEq, Prod.mk.injEq] at e
      obtain ⟨rfl, rfl, rfl⟩ := e
      exact ⟨_, _, run_endRound (some (.exit i)) hrec3, fin (some (.exit i)) (some (.exit i)) rfl rfl⟩
    | ret =>
      cases e2 <;> first | exact hx2.elim | skip
      simp only [Option.some.injEq, Prod.mk.injEq] at e
      obtain ⟨rfl, rfl, rfl⟩ := e
      exact ⟨_, _, run_endRound (some .ret) hrec3, fin (some .ret) (some .ret) rfl rfl⟩
end Go.Abs
end
section
/-
  The machine with loops against the model's: whole calls; a function that loops over functions, taken as known.
-/
set_option linter.unusedSimpArgs false
set_option linter.unusedVariables false
namespace Go.Abs
open Go

variable {κ : Nat} {ρ : Option Nat} {C : Cfg} {P : Program} {m m' m'' : Nat → Option Nat} {Z Z' Z'' : Nat → Prop} {h h' h'' : Heap} {w w' w'' : World} {base : Nat} {slot : Option Nat} {lb lb1 lb2 : Nat → Prop}

theorem Step.noL (s : Step base slot (lbOf m ([] : LS)) m' Z h w m'' Z' h' w') : Step base slot noLb m' Z h w m'' Z' h' w' :=
  s.lbMono fun b ⟨r, hr, _⟩ => by cases hr

theorem leavesL_of {L : LS} {v : AVal} (r : HRel P m Z h w) (l : LRel P m Z L w) {e : Ending} (q : Leaves P base m Z h w v h' e w') : LeavesL P base m Z h L w v h' L e w' := by
  obtain ⟨u, m', Z', rfl, h1, h2, h3⟩ := q
  exact ⟨u, m', Z', rfl, h1, h2, l.step r h3 fun _ _ hh => hh, rfl, h3.anyLb⟩

theorem same_below {m' : Nat → Option Nat} {Z' : Nat → Prop} {w' : World} {h' : Heap} (r : HRel P m Z h w) (r' : HRel P m' Z' h' w') (s : Step 0 none noLb nm0 Z [] w m' Z' h' w') :
    HRel P m (cutZ 0 m' h' Z') h w' ∧ Step base none noLb m Z h w m (cutZ 0 m' h' Z') h w' := by
  have hk : ∀ b, b < w.heap.size → w'.heap[b]? = w.heap[b]? := fun b hb => s.fr b hb (fun l blk _ e => by simp [hget] at e) (fun h => h)
  have hzn : ∀ b, cutZ 0 m' h' Z' b → Z b ∨ w.heap.size ≤ b := fun b hz => hz.elim (s.zn b) fun ⟨l, blk, h1, h2, h3⟩ => by
    rcases s.foot l blk b h1 h2 h3 with h4 | ⟨l0, blk0, _, h5, _⟩
    · exact .inr h4
    · simp [hget] at h5
  have S : Step base none noLb m Z h w m (cutZ 0 m' h' Z') h w' := ⟨s.os, s.tape, s.output, s.size, fun _ _ e => e, fun b z => .inl (s.zz b z), fun b hb _ _ => hk b hb, s.shp, fun _ _ => rfl, Nat.le_refl _, fun l blk b hl e e' => .inr ⟨l, blk, hl, e, e'⟩, fun _ _ _ => rfl,
    fun b o hz => cell_of_heap (hk b (r.zdom b hz)), hzn⟩
  refine ⟨⟨fun l blk e => ?_, r.inj, fun l blk b e e1 hz => ?_, fun l b e => ⟨(r.dom l b e).1, Nat.lt_of_lt_of_le (r.dom l b e).2 s.size⟩, fun b hz => ?_⟩, S⟩
  · obtain ⟨b, hb, ⟨us0, rest0, fz0, g1, g2, g3, g4⟩, g5⟩ := r.row l blk e
    exact ⟨b, hb, ⟨us0, rest0, fz0, (hk b (r.dom l b hb).2).trans g1, VS.stays (S.stays r) g2, g3, g4⟩, g5⟩
  · rcases hzn b hz with h1 | h1
    · exact r.apart l blk b e e1 h1
    · have := (r.dom l b e1).2; omega
  · rcases hz with hz | ⟨l, blk, _, _, h3⟩
    · exact r'.zdom b hz
    · exact (r'.dom l b h3).2

theorem flat_V {m1 : Nat → Option Nat} {Z1 : Nat → Prop} {w1 : World} {a : AVal} {v : Value} (hf : flat a = true) (hv : V P m1 Z1 w1 a v) : V P m Z w1 a v := by
  cases a with
  | lst n xs =>
    simp only [flat, List.isEmpty_iff] at hf
    subst hf
    simp only [V] at hv ⊢
    obtain ⟨bs, cp, h1, h2, h3, h4, h5⟩ := hv
    exact ⟨bs, cp, h1, h2, h3, h4, fun hne => absurd rfl hne⟩
  | ptr p => cases p with
    | none => simpa only [V] using hv
    | some p => simp [flat] at hf
  | undef | bool _ | int _ _ | str _ | nilFunc => simpa only [V] using hv
  | cref _ | own _ _ _ _ | func _ _ _ | yld _ | agg _ | tup _ => simp [flat] at hf

theorem flats_V {m1 : Nat → Option Nat} {Z1 : Nat → Prop} {w1 : World} : ∀ {as : List AVal} {vs : List Value}, as.all flat = true → VS P m1 Z1 w1 as vs → VS P m Z w1 as vs
  | [], vs, _, hv => by simpa only [VS] using hv
  | a :: as, vs, hf, hv => by
    simp only [List.all_cons, Bool.and_eq_true] at hf
    simp only [VS] at hv ⊢
    obtain ⟨v, vs', rfl, h1, h2⟩ := hv
    exact ⟨v, vs', rfl, flat_V hf.1 h1, flats_V hf.2 h2⟩

theorem flatR_V {m1 : Nat → Option Nat} {Z1 : Nat → Prop} {w1 : World} {a : AVal} {v : Value} (hf : flatR a = true) (hv : V P m1 Z1 w1 a v) : V P m Z w1 a v := by
  cases a with
  | tup vs =>
    simp only [flatR] at hf
    simp only [V] at hv ⊢
    obtain ⟨us, h1, h2⟩ := hv
    exact ⟨us, h1, flats_V hf h2⟩
  | lst n xs => exact flat_V (by simpa [flatR] using hf) hv
  | ptr p => exact flat_V (by simpa [flatR] using hf) hv
  | undef | bool _ | int _ _ | str _ | nilFunc => exact flat_V (by simp [flat]) hv
  | cref _ | own _ _ _ _ | func _ _ _ | yld _ | agg _ => simp [flatR, flat] at hf

theorem doCallL_ok {rn : LCaller} (hE : ExtOK C) (hrn : LCallOK C.P rn) : LCallOK C.P (doCallL C rn) := by
  refine ⟨fun base f args h L v h' L' e m Z w us r l hb hv => ?_, fun base y args h L v h' L' e m Z w us b r l hb hv hm => ?_⟩
  · unfold doCallL at e
    simp only at e
    split at e
    · rename_i g hg
      split at e
      case h_2 => cases e
      rename_i x hx
      simp at e; obtain ⟨rfl, rfl, rfl⟩ := e
      exact (hE f g hg args h x hx base m Z w us r hv).mono fun e' w' hl => leavesL_of r l hl
    · split at e
      · split at e
        case h_2 => cases e
        rename_i x h1 L1 hr
        split at e
        case h_2 => cases e
        rename_i u hu
        simp at e; obtain ⟨rfl, rfl, rfl⟩ := e
        refine (hrn.fn _ f args h [] x h1 L1 hr m Z w us r LRel.nil (Nat.le_refl _) hv).mono fun e' w' hl => ?_
        obtain ⟨y, m', Z', rfl, q1, q2, _, _, q3⟩ := hl
        obtain ⟨k1, k2⟩ := keep_below (base := base) r q2 q3.noL rfl
        have := frz_V q2 9 hu q1
        exact leavesL_of r l ⟨y, _, _, rfl, this, k1, k2⟩
      · split at e
        case h_2 => cases e
        rename_i x h1 L1 hr
        simp at e; obtain ⟨rfl, rfl, rfl⟩ := e
        refine (hrn.fn _ f args h [] x h1 L1 hr m Z w us r LRel.nil (Nat.le_refl _) hv).mono fun e' w' hl => ?_
        obtain ⟨y, m', Z', rfl, q1, q2, _, _, q3⟩ := hl
        exact leavesL_of r l ⟨y, _, _, rfl, q1, q2, q3.noL.mono r hb⟩
      · exact hrn.fn _ _ _ _ _ _ _ _ e m Z w us r l hb hv
      · have r0 : ∀ {Z0 : Nat → Prop}, (∀ b, Z0 b → b < w.heap.size) → HRel C.P nm0 Z0 [] w := fun hz => ⟨fun l blk e => by simp [hget] at e, fun l l' blk blk' b e => by simp [hget] at e, fun l blk b e => by simp [hget] at e, (fun l b e => by cases e), hz⟩
        split at e
        · rename_i as has
          split at e
          case h_2 => cases e
          rename_i x h1 L1 hr
          split at e
          case h_2 => cases e
          rename_i u hu
          simp at e; obtain ⟨rfl, rfl, rfl⟩ := e
          have hv1 : VS C.P nm0 Z w as us := mapO_V (m0 := m) (Z0 := Z) (fun {a b v} ha hv => by
            have := frz_V' (P := C.P) (m := m) (Z := Z) (h := []) (w := w) (fun l blk e => by simp [hget] at e) 9 ha hv
            exact V.stays ⟨(fun l b e => by simp [cutNm] at e), fun b hz => hz.elim id fun ⟨l, blk, _, e, _⟩ => by simp [hget] at e, fun _ _ _ => rfl, fun _ _ e => e⟩ this) has hv
          refine (hrn.fn 0 f as [] [] x h1 L1 hr nm0 Z w us (r0 r.zdom) LRel.nil (Nat.le_refl _) hv1).mono fun e' w' hl => ?_
          obtain ⟨y, m', Z', rfl, q1, q2, _, _, q3⟩ := hl
          obtain ⟨k1, k2⟩ := same_below (base := base) r q2 q3.noL
          have := frz_V q2 9 hu q1
          exact leavesL_of r l ⟨y, _, _, rfl, V.stays ⟨(fun l b e => by simp [cutNm] at e), fun b hz => hz, fun _ _ _ => rfl, fun _ _ e => e⟩ this, k1, k2⟩
        · split at e
          case h_2 => cases e
          rename_i as has
          split at e
          case h_2 => cases e
          rename_i x h1 L1 hr
          split at e
          case isFalse => cases e
          rename_i hfl
          simp at e; obtain ⟨rfl, rfl, rfl⟩ := e
          have hz1 : ∀ b, cutZ 0 m h Z b → b < w.heap.size := fun b hz => hz.elim (r.zdom b) fun ⟨l, blk, _, _, e⟩ => (r.dom l b e).2
          have hv1 : VS C.P nm0 (cutZ 0 m h Z) w as us := mapO_V (m0 := m) (Z0 := Z) (fun {a b v} ha hv => by
            have := frz_V r 9 ha hv
            exact V.stays ⟨(fun l b e => by simp [cutNm] at e), fun b hz => hz, fun _ _ _ => rfl, fun _ _ e => e⟩ this) has hv
          refine (hrn.fn 0 f as [] [] x h1 L1 hr nm0 _ w us (r0 hz1) LRel.nil (Nat.le_refl _) hv1).mono fun e' w' hl => ?_
          obtain ⟨y, m', Z', rfl, q1, q2, _, _, q3⟩ := hl
          have q4 := q3.noL
          have hk : ∀ b, b < w.heap.size → w'.heap[b]? = w.heap[b]? := fun b hb => q4.fr b hb (fun l blk _ e => by simp [hget] at e) (fun h => h)
          have S : Step base none noLb m Z h w m Z h w' := ⟨q4.os, q4.tape, q4.output, q4.size, fun _ _ e => e, fun _ z => z, fun b hb _ _ => hk b hb, q4.shp, fun _ _ => rfl, Nat.le_refl _, fun l blk b hl e e' => .inr ⟨l, blk, hl, e, e'⟩, fun _ _ _ => rfl,
            fun b o hz => cell_of_heap (hk b (r.zdom b hz)), fun _ z => .inl z⟩
          exact leavesL_of r l ⟨y, m, Z, rfl, flatR_V hfl q1, ⟨fun l blk e => by
            obtain ⟨b, hb, ⟨us0, rest0, fz0, g1, g2, g3, g4⟩, g5⟩ := r.row l blk e
            exact ⟨b, hb, ⟨us0, rest0, fz0, (hk b (r.dom l b hb).2).trans g1, VS.stays (S.stays r) g2, g3, g4⟩, g5⟩, r.inj, r.apart, fun l b e => ⟨(r.dom l b e).1, Nat.lt_of_lt_of_le (r.dom l b e).2 q4.size⟩, fun b hz => Nat.lt_of_lt_of_le (r.zdom b hz) q4.size⟩, S⟩
  · exact hrn.yld _ _ _ _ _ _ _ _ e m Z w us b r l hb hv hm

/-! ### the marks are taken away -/
theorem putDef_cell {b : Nat} {x : Option (List Deferred)} (h1 : w.heap[b]? = some (.deferred x)) (y : Option (List Deferred)) (c o : Nat) : (w.putObj b (.deferred y)).cell? ⟨c, o, none⟩ = w.cell? ⟨c, o, none⟩ := by
  by_cases hc : c = b
  · subst hc
    have hlt : c < w.heap.size := (Array.getElem?_eq_some_iff.1 h1).1
    simp only [World.cell?, World.putObj_heap_same hlt, h1]
  · exact cell_of_heap (World.putObj_heap_other hc)

theorem putDef_shape {b : Nat} {x : Option (List Deferred)} (h1 : w.heap[b]? = some (.deferred x)) (y : Option (List Deferred)) (c : Nat) : (w.putObj b (.deferred y)).shape? c = w.shape? c := by
  by_cases hc : c = b
  · subst hc
    have hlt : c < w.heap.size := (Array.getElem?_eq_some_iff.1 h1).1
    simp only [World.shape?, World.putObj_heap_same hlt, h1]
  · simp only [World.shape?, World.putObj_heap_other hc]

theorem putDef_step {b : Nat} {x : Option (List Deferred)} (h1 : w.heap[b]? = some (.deferred x)) (y : Option (List Deferred)) : Step base none (fun c => c = b) m Z h w m Z h (w.putObj b (.deferred y)) :=
  ⟨rfl, rfl, rfl, by simp, fun _ _ e => e, fun _ z => z, fun c _ _ hc => World.putObj_heap_other hc, fun c x hx => by rw [putDef_shape h1]; exact hx, fun _ _ => rfl, Nat.le_refl _, fun l blk c hl e e' => .inr ⟨l, blk, hl, e, e'⟩, fun _ _ _ => rfl,
    fun c o _ => putDef_cell h1 y c o, fun _ z => .inl z⟩

theorem HRel.putDef (r : HRel P m Z h w) {b : Nat} {x : Option (List Deferred)} (hz : Z b) (h1 : w.heap[b]? = some (.deferred x)) (y : Option (List Deferred)) : HRel P m Z h (w.putObj b (.deferred y)) := by
  have st := (putDef_step (base := 0) (m := m) (Z := Z) (h := h) h1 y).stays r
  refine ⟨fun l blk e => ?_, r.inj, r.apart, fun l c e => by simpa using r.dom l c e, fun c hc => by simpa using r.zdom c hc⟩
  obtain ⟨c, hc, ⟨us, rest, fz, k1, k2, k3, k4⟩, k5⟩ := r.row l blk e
  have hne : c ≠ b := fun hh => by subst hh; exact r.apart l blk c e hc hz
  exact ⟨c, hc, ⟨us, rest, fz, by rw [World.putObj_heap_other hne]; exact k1, VS.stays st k2, k3, k4⟩, k5⟩

theorem marks_leave {F : Fence} {n : Nat} {fn : Func} {tmps : Array Value} {R : Ending → World → Prop} {ds : List Deferred} {L : LS} (k : Marks κ Z w ds) (r : HRel P m Z h w) (l : LRel P m Z L w)
    (fin : ∀ w', HRel P m Z h w' → LRel P m Z L w' → Step base none (fun b => κ ≤ b) m Z h w m Z h w' → ∃ v, (results fn tmps).run P w' = .ok v w' ∧ R (.returned v) w') : LeavesInM F n P fn tmps R ds .returning w := by
  induction ds generalizing w with
  | nil =>
    unfold LeavesInM LeavesIn
    exact fin w r l (Step.refl _ _ _ _ _ _ _)
  | cons d ds ih =>
    cases k with
    | @cons D ds hk hz hd hne k' =>
      unfold LeavesInM
      refine ⟨by simp, .inl ⟨D, _, rfl, run_takeDeferred hd, ?_⟩⟩
      have p := putDef_step (base := base) (m := m) (Z := Z) (h := h) hd none
      have l' : LRel P m Z L (w.putObj D (.deferred none)) := l.step r p fun c hc e => by
        subst e
        obtain ⟨x, hx, hb⟩ := hc
        obtain ⟨b, rec, h1, _, h3, _⟩ := l.at_ x hx
        rw [h1] at hb; simp at hb; subst hb
        rw [hd] at h3; cases h3
      have k2 : Marks κ Z (w.putObj D (.deferred none)) ds := by
        have key : ∀ {ds : List Deferred}, Marks κ Z w ds → (∀ d, d ∈ ds → d.target ≠ .collected D) → Marks κ Z (w.putObj D (.deferred none)) ds := by
          intro ds km
          induction km with
          | nil hk => intro _; exact .nil (by simpa using hk)
          | @cons E es hk hz hd' hne' _ ih =>
            intro hn
            have hED : E ≠ D := fun hh => by
              subst hh
              exact hn _ (List.mem_cons_self ..) rfl
            exact .cons hk hz (by rw [World.putObj_heap_other hED]; exact hd') hne' (ih fun d hd => hn d (List.mem_cons_of_mem _ hd))
        exact key k' hne
      refine ih k2 (r.putDef hz hd none) l' fun w' r' l'' s => fin w' r' l'' ?_
      exact (p.lbMono fun c hc => by subst hc; exact hk).trans s

theorem runL_ok (hE : ExtOK C) (hX : ExtFrame C) (hN : Named C.P) (hm : C.P.follows .mixedOrders = true) : ∀ n, LCallOK C.P (runL C n)
  | 0 => ⟨fun base f args h L v h' L' e => by simp [runL] at e, fun base y args h L v h' L' e => by simp [runL] at e⟩
  | n + 1 => by
    have ih := doCallL_ok hE (runL_ok hE hX hN hm n)
    have hF := doCallL_frame hX (runL_frame hX n)
    have hK := doCallL_kept (C := C) (runL_kept (C := C) n)
    have hT := plainC_touch (C := C) (runL_kept (C := C) n)
    refine ⟨fun base f args h L v h' L' e m Z w us r l hb hv => ?_, fun base y args h L v h' L' e m Z w us b r l hb hv hmb => ?_⟩
    · simp only [runL] at e
      split at e
      · cases e
      rename_i fn hf
      split at e
      · cases e
      rename_i c hc
      split at e
      · cases e
      rename_i hlen
      have hl := hv.length
      have he : EnvR C.P m Z w fn.ntmps args (us.toArray ++ Array.replicate (fn.ntmps - us.toArray.size) Go.undef) := by
        refine ⟨by simp; omega, fun i => ?_⟩
        have := hv.getX i
        rw [Array.getD_eq_getD_getElem?, Array.getElem?_append]
        split
        · simpa using this
        · rename_i hi
          rw [List.getElem?_eq_none (by simpa using hi)] at this
          rw [Array.getElem?_replicate]
          split
          · exact this
          · exact this
      have fin : ∀ {x : Ex} {s : LSt}, execL C (doCallL C (runL C n)) n base fn.ntmps false c (args, h, L) = some (x, s) → (∀ i, x ≠ .exit i) → ∀ {y}, finishA C.P fn (s.1, s.2.1) = some y → (y, s.2.1, s.2.2) = (v, h', L') → Calls C.P f us.toArray w (LeavesL C.P base m Z h L w v h' L') := by
        intro x s hx hne y hy hyv
        simp only [Prod.mk.injEq] at hyv
        obtain ⟨rfl, rfl, rfl⟩ := hyv
        refine (callsIn_wide (n := 0)).1 (callsIn_of_wp_marks hf hc trivial ?_)
        have w1 := execL_wp (κ := w.heap.size) (ρ := none) (a := { tmps := us.toArray ++ Array.replicate (fn.ntmps - us.toArray.size) Go.undef, defers := [] }) ih hN rfl hm hF hK hT (range_ok ih hN rfl) r l he (.nil (Nat.le_refl _)) hb hx
        refine Go.wpIn_mono w1 fun e' a' w' hq => ?_
        obtain ⟨hxm, m', Z', k1, k2, k3, k4, k5, k6⟩ := hq
        have leave : LeavesInM Fence.wide 0 C.P fn a'.tmps (LeavesL C.P base m Z h L w y s.2.1 s.2.2) a'.defers .returning w' := by
          refine marks_leave (base := base) k2 k3 k4 fun w'' r'' l'' s'' => ?_
          have k1' := k1.stays (s''.stays k3)
          obtain ⟨u, h1, h2⟩ := run_results (s := (s.1, s.2.1)) r'' rfl k1' hy
          exact ⟨u, h1, u, m', Z', rfl, h2, r'', l'', k5, k6.transLb s'' fun c hc hcb => absurd hcb (by omega)⟩
        cases x with
        | exit i => exact absurd rfl (hne i)
        | normal =>
          cases e' <;> first | exact hxm.elim | skip
          exact leave
        | ret =>
          cases e' <;> first | exact hxm.elim | skip
          exact leave
      split at e
      · cases e
      · rename_i x env1 h1 L1 hne hx
        split at e
        case h_2 => cases e
        rename_i y hy
        simp only [Option.some.injEq] at e
        exact fin hx (fun i hi => hne i hi) hy e
      · cases e
    · simp only [runL] at e
      split at e
      · cases e
      rename_i r0 L0
      split at e
      case isFalse => cases e
      rename_i hc
      obtain ⟨rfl, hj⟩ := hc
      exact round_ok (k := n) ih hN rfl hm hF hK hT r l hb hj hv hmb e
end Go.Abs
end
