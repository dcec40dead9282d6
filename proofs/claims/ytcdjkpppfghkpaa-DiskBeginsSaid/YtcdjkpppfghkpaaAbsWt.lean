/-
  The reckoner of conditions against the machine of values: bodies and calls.
-/
import Derived.Test.YtcdjkpppfghkpaaAbsWs
set_option linter.unusedSimpArgs false
set_option linter.unusedVariables false
namespace Go.Abs
open Go

variable {C : Cfg} {P : Program} {base n : Nat} {slot : Option Nat} {e : Env} {env : List AVal} {h h' : Heap} {L L' : LS}

/-- the machine's calls, with so many steps to go -/
abbrev cls (C : Cfg) (M : Nat) : LCaller := doCallL C (runL C M)

theorem Kput_ok (ag : AgreeF env e) {dst : Option Tmp} {v : AVal} {K : Env → Prop} (hk : Kput n e dst v K) : ∃ env' e', putA n env dst v = some env' ∧ AgreeF env' e' ∧ K e' := by
  unfold Kput at hk
  split at hk
  · exact ⟨env, e, rfl, ag, hk⟩
  · rename_i d
    obtain ⟨h1, h2⟩ := Kcond_F hk
    rw [Kv3_iff] at h2
    have hd : d < n := by
      have := Nat.le_of_ble_eq_true h1
      exact this
    exact ⟨_, _, by simp only [putA, if_pos hd], ag.put d v, h2⟩

theorem VYld_nil {y : Nat} {args : List AVal} {K : AVal → Heap → LS → Prop} (hv : VYld C base y args h [] K) : False := by
  obtain ⟨v, h', L', ⟨N0, hN⟩, _⟩ := hv
  have := hN (N0 + 1) (by omega)
  simp [doCallL, runL] at this

theorem wop_L (ag : AgreeF env e) {op : Op} {K : AVal → Heap → LS → Prop} (hw : wop C base none e h L op K) :
    ∃ v h' L', K v h' L' ∧ ∃ N0, ∀ M, N0 ≤ M → opL C (cls C M) base env h L op = some (v, h', L') := by
  rcases wop_A ag hw with ⟨v, h', hk, ho⟩ | ⟨c, f, g, first, captured, args, rfl, hf, hg, ha, hv⟩ | ⟨c, f, y, args, rfl, hf, hg, ha, hv⟩
  · exact ⟨v, h', L, hk, 0, fun M _ => by rw [(ho (plainC (cls C M))).2 (cls C M) _ rfl, (ho (plainC (cls C M))).1]⟩
  · obtain ⟨hb, v, h', L', ⟨N0, hN⟩, hk⟩ := hv
    exact ⟨v, h', L', hk, N0, fun M hM => by simp only [opL, hf, hg, ha, hb, if_true]; exact hN M hM⟩
  · obtain ⟨v, h', L', ⟨N0, hN⟩, hk⟩ := hv
    exact ⟨v, h', L', hk, N0, fun M hM => by simp only [opL, hf, hg, ha]; exact hN M hM⟩

theorem wop_D (ag : AgreeF env e) {op : Op} {K : AVal → Heap → LS → Prop} (hw : wop C base slot e h [] op K) :
    ∃ v h' L', K v h' L' ∧ ∃ N0, ∀ M, N0 ≤ M → opA C (plainC (cls C M)) base slot env h op = some (v, h') := by
  rcases wop_A ag hw with ⟨v, h', hk, ho⟩ | ⟨c, f, g, first, captured, args, rfl, hf, hg, ha, hv⟩ | ⟨c, f, y, args, rfl, hf, hg, ha, hv⟩
  · exact ⟨v, h', [], hk, 0, fun M _ => (ho (plainC (cls C M))).1⟩
  · obtain ⟨hb, v, h', L', ⟨N0, hN⟩, hk⟩ := hv
    exact ⟨v, h', L', hk, N0, fun M hM => by simp only [opA, hf, hg, ha, hb, gd, if_true, Option.bind_eq_bind, Option.bind_some, plainC, hN M hM]⟩
  · exact (VYld_nil hv).elim

theorem Kwant_iff {b want : Bool} {A B : Prop} : Kwant b want A B ↔ if b = want then A else B := by cases b <;> cases want <;> simp [Kwant, Kcond]

theorem wops_ok {all : List Oper} {K : Env → Heap → LS → Prop} : ∀ {l : List Oper} {e : Env} {env : List AVal} {h : Heap} {L : LS}, AgreeF env e → wops C base n all l K e h L →
    ∃ env' h' L' e', AgreeF env' e' ∧ K e' h' L' ∧ ∃ N0, ∀ M, N0 ≤ M → opsL C (cls C M) base n all l (env, h, L) = some (env', h', L')
  | [], e, env, h, L, ag, hw => ⟨env, h, L, e, ag, hw, 0, fun _ _ => rfl⟩
  | o :: rest, e, env, h, L, ag, hw => by
    have go : ∀ {e : Env}, AgreeF env e → wantedA all env o = true → wop C base none e h L o.op (fun v h' L' => Kput n e o.dst v fun e' => wops C base n all rest K e' h' L') →
        ∃ env' h' L' e', AgreeF env' e' ∧ K e' h' L' ∧ ∃ N0, ∀ M, N0 ≤ M → opsL C (cls C M) base n all (o :: rest) (env, h, L) = some (env', h', L') := by
      intro e ag hwant hw
      obtain ⟨v, h1, L1, hk, N0, hN⟩ := wop_L ag hw
      obtain ⟨env1, e1, hp, ag1, hk1⟩ := Kput_ok ag hk
      obtain ⟨env2, h2, L2, e2, ag2, hk2, N1, hN1⟩ := wops_ok ag1 hk1
      exact ⟨env2, h2, L2, e2, ag2, hk2, max N0 N1, fun M hM => by
        simp only [opsL, hwant, if_true, hN M (by omega), hp]
        exact hN1 M (by omega)⟩
    have no : ∀ {e : Env}, AgreeF env e → wantedA all env o = false → (Kput n e o.dst .undef fun e' => wops C base n all rest K e' h L) →
        ∃ env' h' L' e', AgreeF env' e' ∧ K e' h' L' ∧ ∃ N0, ∀ M, N0 ≤ M → opsL C (cls C M) base n all (o :: rest) (env, h, L) = some (env', h', L') := by
      intro e ag hwant hk
      obtain ⟨env1, e1, hp, ag1, hk1⟩ := Kput_ok ag hk
      obtain ⟨env2, h2, L2, e2, ag2, hk2, N1, hN1⟩ := wops_ok ag1 hk1
      exact ⟨env2, h2, L2, e2, ag2, hk2, N1, fun M hM => by
        simp only [opsL, hwant, Bool.false_eq_true, if_false, hp]
        exact hN1 M hM⟩
    change wopsS C base n all o (wops C base n all rest) K e h L at hw
    unfold wopsS at hw
    split at hw
    · rename_i hg
      exact go ag (by simp only [wantedA, hg]) hw
    · rename_i j want hg
      rw [Kopt_iff] at hw
      obtain ⟨d, hd, hw⟩ := hw
      split at hw
      · rename_i b hb
        rw [Kwant_iff] at hw
        split at hw
        · rename_i hbw; subst hbw
          exact go (ag.again hb) (by simp only [wantedA, hg, hd, ag d, hb, beq_self_eq_true]) hw
        · rename_i hbw
          have hb' : b = !want := by cases b <;> cases want <;> simp_all
          exact no (ag.again (hb.trans (by rw [hb']))) (by simp only [wantedA, hg, hd, ag d, hb]; simp [hbw]) hw
      · rename_i hnb
        refine no ag ?_ hw
        simp only [wantedA, hg, hd, ag d]

/-! ### a region whose order is open -/
structure DSF where
  env : Env
  G : Heap
  fl : List (Nat × Blk)
  rs : List (Nat × List Nat)
  es : List (Nat × Option (List Nat) × Nat)
def DSF.to (s : DSF) (env : List AVal) : DS := ⟨env, s.G, s.fl, s.rs, s.es⟩
abbrev DK.at (K : DK) (s : DSF) : Prop := K s.env s.G s.fl s.rs s.es

theorem rdLocs_F (ag : AgreeF env e) (op : Op) : rdLocs env op = rdLocsF e op := by
  cases op <;> simp only [rdLocs, rdLocsF, evalA_F ag] <;> rfl
theorem touch_F (ag : AgreeF env e) (s : Nat) (op : Op) : touchOf C env s op = touchF C e s op := by
  cases op with
  | call c =>
    simp only [touchOf, touchF, evalA_F ag]
    cases c.callee with
    | builtin b => cases b <;> rfl
    | _ => rfl
  | _ => rfl

theorem wReadsL_ok {bs : List Nat} {c N i : Nat} {K : Prop} : ∀ {ls : List Nat}, (List.rec (motive := fun _ => Prop) K (fun l _ ih => VIf (c ≤ l → l < c + N → waitsB bs i (l - c) = true) ih) ls) →
    (ls.all fun l => !(decide (c ≤ l) && decide (l < c + N)) || waitsB bs i (l - c)) = true ∧ K
  | [], hw => ⟨rfl, hw⟩
  | l :: ls, hw => by
    obtain ⟨h1, h2⟩ := hw
    obtain ⟨h3, h4⟩ := wReadsL_ok h2
    refine ⟨?_, h4⟩
    rw [List.all_cons, h3, Bool.and_true]
    by_cases k1 : c ≤ l
    · by_cases k2 : l < c + N
      · simp [k1, k2, h1 k1 k2]
      · simp [k2]
    · simp [k1]
theorem vT_ok {T : Option (List Nat)} {len : Nat} {K : Prop} : ∀ {ls : List Nat}, vT T ls len K → (match T with | some T => ls.all fun l => !T.contains l && decide (l < len) | none => false) = true ∧ K := by
  intro ls hw
  cases T with
  | none => exact hw.elim
  | some T =>
    induction ls with
    | nil => exact ⟨rfl, hw⟩
    | cons l ls ih =>
      have hw : VIf (l < len) (List.rec (motive := fun _ => Prop) (vT (some T) ls len K) (fun t _ ih' => VIf (l ≠ t) ih') T) := hw
      obtain ⟨h1, h2⟩ := hw
      have key : ∀ {T' : List Nat} {A : Prop}, (List.rec (motive := fun _ => Prop) A (fun t _ ih' => VIf (l ≠ t) ih') T') → l ∉ T' ∧ A := by
        intro T' A
        induction T' with
        | nil => intro h; exact ⟨by simp, h⟩
        | cons t T' ih =>
          intro h
          have h : VIf (l ≠ t) (List.rec (motive := fun _ => Prop) A (fun t _ ih' => VIf (l ≠ t) ih') T') := h
          obtain ⟨h3, h4⟩ := h
          obtain ⟨h5, h6⟩ := ih h4
          exact ⟨by simp [h3, h5], h6⟩
      obtain ⟨h3, h4⟩ := key h2
      obtain ⟨h5, h6⟩ := ih h4
      refine ⟨?_, h6⟩
      simp only at h5 ⊢
      rw [List.all_cons, h5]
      simp [h1, h3]
theorem KnumL_iff {n : Nat} {K : Nat → Prop} {A : Prop} (hA : A ↔ K n) : ∀ l : List Nat, KnumL n K A l ↔ K n := by
  intro l
  induction l with
  | nil => exact hA
  | cons m l ih =>
    show (bif Nat.beq n m then K m else KnumL n K A l) ↔ K n
    cases hb : Nat.beq n m with
    | false => exact ih
    | true => rw [Nat.eq_of_beq_eq_true hb]; exact Iff.rfl
theorem Knum_iff {n : Nat} {K : Nat → Prop} : Knum n K ↔ K n := KnumL_iff (KnumL_iff (KnumL_iff Iff.rfl _) _) _
theorem wReads_ok {bs : List Nat} {c N i : Nat} {ls : List Nat} {K : Prop} : ∀ {es : List (Nat × Option (List Nat) × Nat)}, wReads bs c N i ls es K → readsOk bs c N i ls es = true ∧ K := by
  intro es hw
  have key : ∀ {es : List (Nat × Option (List Nat) × Nat)}, wReads bs c N i ls es K → (es.all fun e => waitsB bs i e.1 || match e.2.1 with | some T => ls.all fun l => !T.contains l && decide (l < e.2.2) | none => false) = true ∧
      (ls.all fun l => !(decide (c ≤ l) && decide (l < c + N)) || waitsB bs i (l - c)) = true ∧ K := by
    intro es
    induction es with
    | nil => intro hw; exact ⟨rfl, wReadsL_ok hw⟩
    | cons e es ih =>
      intro hw
      change (bif waitsB bs i e.1 then wReads bs c N i ls es K else vT e.2.1 ls e.2.2 (wReads bs c N i ls es K)) at hw
      cases hb : waitsB bs i e.1 with
      | true =>
        rw [hb] at hw
        obtain ⟨h1, h2⟩ := ih hw
        exact ⟨by rw [List.all_cons, hb, h1]; rfl, h2⟩
      | false =>
        rw [hb] at hw
        obtain ⟨h0, hw⟩ := vT_ok hw
        obtain ⟨h1, h2⟩ := ih hw
        refine ⟨?_, h2⟩
        rw [List.all_cons, h1, hb, Bool.false_or, Bool.and_true]
        exact h0
  obtain ⟨h1, h2, h3⟩ := key hw
  refine ⟨?_, h3⟩
  unfold readsOk
  rw [Bool.and_eq_true]
  exact ⟨h1, h2⟩
theorem wEffsR_ok {bs : List Nat} {i len : Nat} {T : Option (List Nat)} {K : Prop} : ∀ {rs : List (Nat × List Nat)}, wEffsR bs i T len K rs →
    (∀ r, r ∈ rs → (waitsB bs i r.1 || match T with | some T => r.2.all fun l => !T.contains l && decide (l < len) | none => false) = true) ∧ K
  | [], hw => ⟨fun r hr => (by cases hr), hw⟩
  | r :: rs, hw => by
    change (bif waitsB bs i r.1 then wEffsR bs i T len K rs else vT T r.2 len (wEffsR bs i T len K rs)) at hw
    cases hb : waitsB bs i r.1 with
    | true =>
      simp only [hb, cond_true] at hw
      obtain ⟨h1, h2⟩ := wEffsR_ok hw
      exact ⟨fun r' hr => by rcases List.mem_cons.1 hr with rfl | hr; (· rw [hb]; rfl); exact h1 r' hr, h2⟩
    | false =>
      simp only [hb, cond_false] at hw
      obtain ⟨h0, hw⟩ := vT_ok hw
      obtain ⟨h1, h2⟩ := wEffsR_ok hw
      refine ⟨fun r' hr => ?_, h2⟩
      rcases List.mem_cons.1 hr with rfl | hr
      · rw [hb, Bool.false_or]
        exact h0
      · exact h1 r' hr
theorem wEffs_ok {bs : List Nat} {i len : Nat} {T : Option (List Nat)} {rs : List (Nat × List Nat)} {K : Prop} {es : List (Nat × Option (List Nat) × Nat)} (hw : wEffs bs i T rs es len K) : effOk bs i T rs es len = true ∧ K := by
  have key : ∀ {es : List (Nat × Option (List Nat) × Nat)}, wEffs bs i T rs es len K → (es.all fun e => waitsB bs i e.1) = true ∧ wEffsR bs i T len K rs := by
    intro es
    induction es with
    | nil => intro hw; exact ⟨rfl, hw⟩
    | cons e es ih =>
      intro hw
      change (bif waitsB bs i e.1 then wEffs bs i T rs es len K else False) at hw
      cases hb : waitsB bs i e.1 with
      | true =>
        rw [hb] at hw
        obtain ⟨h1, h2⟩ := ih hw
        exact ⟨by rw [List.all_cons, hb, h1]; rfl, h2⟩
      | false => rw [hb] at hw; exact hw.elim
  obtain ⟨h1, h2⟩ := key hw
  obtain ⟨h3, h4⟩ := wEffsR_ok h2
  refine ⟨?_, h4⟩
  unfold effOk
  rw [Bool.and_eq_true]
  refine ⟨h1, ?_⟩
  rw [List.all_eq_true]
  exact h3
theorem KmergeIf_ok {c : Nat} {p : Nat → Bool} {K : Heap → Prop} : ∀ {fl : List (Nat × Blk)} {G : Heap}, KmergeIf c p fl K G → K (mergeF c p fl G)
  | [], G, hw => hw
  | (j, b) :: fl, G, hw => by
    change (bif p j then KmergeIf c p fl K (G.set (c + j) (some b)) else KmergeIf c p fl K G) at hw
    simp only [mergeF]
    cases hp : p j with
    | true => rw [hp] at hw; simpa using KmergeIf_ok hw
    | false => rw [hp] at hw; simpa using KmergeIf_ok hw
theorem filt_eq (p : Nat → Bool) : ∀ l, filt p l = l.filter fun x => p x.1
  | [] => rfl
  | x :: l => by
    change (bif p x.1 then x :: filt p l else filt p l) = _
    rw [filt_eq p l, List.filter_cons]
    cases p x.1 <;> rfl

theorem wdstep_ok {c i : Nat} {all : List Oper} {bs : List Nat} {o : Oper} {K : DK} {s : DSF} (ag : AgreeF env s.env) (hwant : wantedA all env o = true) (hw : DK.at (wdstep C base n c all.length all bs i o K) s) :
    ∃ s' env', AgreeF env' s'.env ∧ DK.at K s' ∧ ∃ N0, ∀ M, N0 ≤ M → dstep C (plainC (cls C M)) base n c all bs i o (s.to env) = some (s'.to env') := by
  unfold DK.at wdstep at hw
  split at hw
  · rename_i hc
    obtain ⟨v, h1, L1, hk, N0, hN⟩ := wop_D ag hw
    obtain ⟨env1, e1, hp, ag1, hk1⟩ := Kput_ok ag hk
    exact ⟨{ s with env := e1 }, env1, ag1, hk1, N0, fun M hM => by simp only [dstep, DSF.to, hwant, if_true, hc, hN M hM, hp]⟩
  · rename_i hc
    have hw := Knum_iff.1 hw
    obtain ⟨h0, hw⟩ := wReads_ok hw
    have hw := KmergeIf_ok hw
    obtain ⟨v, h1, L1, hk, N0, hN⟩ := wop_D ag hw
    obtain ⟨env1, e1, hp, ag1, hk1⟩ := Kput_ok ag hk
    exact ⟨{ s with env := e1, rs := (i, rdLocsF s.env o.op) :: s.rs }, env1, ag1, hk1, N0, fun M hM => by simp only [dstep, DSF.to, hwant, if_true, hc, rdLocs_F ag, h0, hN M hM, hp]⟩
  · rename_i hc
    have hw := Knum_iff.1 hw
    obtain ⟨v, h1, L1, hk, N0, hN⟩ := wop_D ag hw
    obtain ⟨b, hb, hk⟩ := hk
    obtain ⟨env1, e1, hp, ag1, hk1⟩ := Kput_ok ag hk
    exact ⟨{ s with env := e1, fl := (i, b) :: s.fl }, env1, ag1, hk1, N0, fun M hM => by simp only [dstep, DSF.to, hwant, if_true, hc, hN M hM, hb, hp]⟩
  · rename_i hc
    have hw := Knum_iff.1 hw
    obtain ⟨h0, hw⟩ := wEffs_ok hw
    have hw := KmergeIf_ok hw
    obtain ⟨v, h1, L1, hk, N0, hN⟩ := wop_D ag hw
    obtain ⟨env1, e1, hp, ag1, hk1⟩ := Kput_ok ag hk
    exact ⟨⟨e1, h1, filt (fun j => !waitsB bs i j) s.fl, s.rs, (i, touchF C s.env (c + i) o.op, (mergeF c (waitsB bs i) s.fl s.G).length) :: s.es⟩, env1, ag1, hk1, N0, fun M hM => by simp only [dstep, DSF.to, hwant, if_true, hc, touch_F ag, h0, hN M hM, hp, filt_eq]⟩

theorem wdsteps_ok {c : Nat} {all : List Oper} {bs : List Nat} {K : DK} : ∀ {l : List Oper} {i : Nat} {s : DSF} {env : List AVal}, AgreeF env s.env → DK.at (wdsteps C base n c all.length all bs l i K) s →
    ∃ s' env', AgreeF env' s'.env ∧ DK.at K s' ∧ ∃ N0, ∀ M, N0 ≤ M → dsteps C (plainC (cls C M)) base n c all bs i l (s.to env) = some (s'.to env')
  | [], i, s, env, ag, hw => ⟨s, env, ag, hw, 0, fun _ _ => rfl⟩
  | o :: rest, i, s, env, ag, hw => by
    have go : ∀ {s0 : DSF}, s0.to env = s.to env → AgreeF env s0.env → wantedA all env o = true → DK.at (wdstep C base n c all.length all bs i o (fun e G fl rs es => wdsteps C base n c all.length all bs rest (i + 1) K e G fl rs es)) s0 →
        ∃ s' env', AgreeF env' s'.env ∧ DK.at K s' ∧ ∃ N0, ∀ M, N0 ≤ M → dsteps C (plainC (cls C M)) base n c all bs i (o :: rest) (s.to env) = some (s'.to env') := by
      intro s0 h0 ag hwant hw
      obtain ⟨s1, env1, ag1, hk1, N0, hN⟩ := wdstep_ok ag hwant hw
      obtain ⟨s2, env2, ag2, hk2, N1, hN1⟩ := wdsteps_ok ag1 hk1
      exact ⟨s2, env2, ag2, hk2, max N0 N1, fun M hM => by
        rw [← h0]
        simp only [dsteps, hN M (by omega)]
        exact hN1 M (by omega)⟩
    have no : ∀ {s0 : DSF}, s0.to env = s.to env → AgreeF env s0.env → wantedA all env o = false → (Kput n s0.env o.dst .undef fun e' => DK.at (wdsteps C base n c all.length all bs rest (i + 1) K) { s0 with env := e' }) →
        ∃ s' env', AgreeF env' s'.env ∧ DK.at K s' ∧ ∃ N0, ∀ M, N0 ≤ M → dsteps C (plainC (cls C M)) base n c all bs i (o :: rest) (s.to env) = some (s'.to env') := by
      intro s0 h0 ag hwant hk
      obtain ⟨env1, e1, hp, ag1, hk1⟩ := Kput_ok ag hk
      obtain ⟨s2, env2, ag2, hk2, N1, hN1⟩ := wdsteps_ok (s := { s0 with env := e1 }) ag1 hk1
      exact ⟨s2, env2, ag2, hk2, N1, fun M hM => by
        rw [← h0]
        simp only [dsteps, dstep, DSF.to, hwant, Bool.false_eq_true, if_false, hp]
        exact hN1 M hM⟩
    change wdstepsS C base n c all.length all bs o (wdsteps C base n c all.length all bs rest) i K s.env s.G s.fl s.rs s.es at hw
    unfold wdstepsS at hw
    split at hw
    · rename_i hg
      exact go rfl ag (by simp only [wantedA, hg]) hw
    · rename_i j want hg
      rw [Kopt_iff] at hw
      obtain ⟨d, hd, hw⟩ := hw
      split at hw
      · rename_i b hb
        rw [Kwant_iff] at hw
        split at hw
        · rename_i hbw; subst hbw
          exact go (s0 := { s with env := put s.env d (.bool b) }) rfl (ag.again hb) (by simp only [wantedA, hg, hd, ag d, hb, beq_self_eq_true]) hw
        · rename_i hbw
          have hb' : b = !want := by cases b <;> cases want <;> simp_all
          exact no (s0 := { s with env := put s.env d (.bool !want) }) rfl (ag.again (hb.trans (by rw [hb']))) (by simp only [wantedA, hg, hd, ag d, hb]; simp [hbw]) hw
      · rename_i hnb
        refine no rfl ag ?_ hw
        simp only [wantedA, hg, hd, ag d]

theorem wdraw_ok {all : List Oper} {K : Env → Heap → Prop} (ag : AgreeF env e) (hw : wdraw C base n all K e h) :
    ∃ env' h' e', AgreeF env' e' ∧ K e' h' ∧ ∃ N0, ∀ M, N0 ≤ M → drawA C (plainC (cls C M)) base n all (env, h) = some (env', h') := by
  unfold wdraw at hw
  obtain ⟨h0, hw⟩ := hw
  have hw := Knum_iff.1 hw
  obtain ⟨s', env', ag', hk, N0, hN⟩ := wdsteps_ok (s := ⟨e, h ++ List.replicate all.length none, [], [], []⟩) ag hw
  have hk := KmergeIf_ok hk
  exact ⟨env', _, s'.env, ag', hk, N0, fun M hM => by
    have := hN M hM
    simp only [DSF.to] at this
    simp only [drawA, h0, if_true, this]⟩

/-! ### bodies -/
def EvR (C : Cfg) (base n : Nat) (inR : Bool) (c : Code) (s : LSt) (r : Ex × LSt) : Prop := ∃ N0, ∀ N M, N0 ≤ N → N0 ≤ M → execL C (cls C M) N base n inR c s = some r

theorem W_ok {inR : Bool} : ∀ {c : Code} {Q : Post} {e : Env} {env : List AVal} {h : Heap} {L : LS}, AgreeF env e → W C base n inR c Q e h L →
    ∃ x env' h' L' e', AgreeF env' e' ∧ Q x e' h' L' ∧ EvR C base n inR c (env, h, L) (x, env', h', L')
  | .skip, Q, e, env, h, L, ag, hw => ⟨.normal, env, h, L, e, ag, hw, 0, fun _ _ _ _ => rfl⟩
  | .region id ops d, Q, e, env, h, L, ag, hw => by
    cases d with
    | true =>
      change wdraw C base n ops.toList (fun e' h' => Q .normal e' h' L) e h at hw
      obtain ⟨env', h', e', ag', hk, N0, hN⟩ := wdraw_ok ag hw
      exact ⟨.normal, env', h', L, e', ag', hk, N0, fun N M _ hM => by simp only [execL, if_true, hN M hM]⟩
    | false =>
      change wops C base n ops.toList ops.toList (fun e' h' L' => Q .normal e' h' L') e h L at hw
      obtain ⟨env', h', L', e', ag', hk, N0, hN⟩ := wops_ok ag hw
      exact ⟨.normal, env', h', L', e', ag', hk, N0, fun N M _ hM => by simp only [execL, Bool.false_eq_true, if_false, hN M hM]⟩
  | .seq a b, Q, e, env, h, L, ag, hw => by
    change W C base n inR a (seqQ (W C base n inR b) Q) e h L at hw
    obtain ⟨x1, env1, h1, L1, e1, ag1, hq, N0, hN⟩ := W_ok ag hw
    cases x1 with
    | normal =>
      change W C base n inR b Q e1 h1 L1 at hq
      obtain ⟨x2, env2, h2, L2, e2, ag2, hq2, N1, hN1⟩ := W_ok ag1 hq
      exact ⟨x2, env2, h2, L2, e2, ag2, hq2, max N0 N1, fun N M hN' hM => by
        simp only [execL, hN N M (by omega) (by omega)]
        exact hN1 N M (by omega) (by omega)⟩
    | exit i => exact ⟨.exit i, env1, h1, L1, e1, ag1, hq, N0, fun N M hN' hM => by simp only [execL, hN N M hN' hM]⟩
    | ret => exact ⟨.ret, env1, h1, L1, e1, ag1, hq, N0, fun N M hN' hM => by simp only [execL, hN N M hN' hM]⟩
  | .cond c a b, Q, e, env, h, L, ag, hw => by
    change wCond c (W C base n inR a) (W C base n inR b) Q e h L at hw
    unfold wCond at hw
    split at hw
    case h_2 => exact hw.elim
    rename_i p hp
    have hp' := (evalA_F ag c).trans hp
    cases p with
    | true =>
      obtain ⟨x, env1, h1, L1, e1, ag1, hq, N0, hN⟩ := W_ok ag hw
      exact ⟨x, env1, h1, L1, e1, ag1, hq, N0, fun N M hN' hM => by simp only [execL, hp']; exact hN N M hN' hM⟩
    | false =>
      obtain ⟨x, env1, h1, L1, e1, ag1, hq, N0, hN⟩ := W_ok ag hw
      exact ⟨x, env1, h1, L1, e1, ag1, hq, N0, fun N M hN' hM => by simp only [execL, hp']; exact hN N M hN' hM⟩
  | .block id b, Q, e, env, h, L, ag, hw => by
    change W C base n inR b (blockQ id Q) e h L at hw
    obtain ⟨x1, env1, h1, L1, e1, ag1, hq, N0, hN⟩ := W_ok ag hw
    cases x1 with
    | normal => exact ⟨.normal, env1, h1, L1, e1, ag1, hq, N0, fun N M hN' hM => by simp only [execL, hN N M hN' hM]⟩
    | ret => exact ⟨.ret, env1, h1, L1, e1, ag1, hq, N0, fun N M hN' hM => by simp only [execL, hN N M hN' hM]⟩
    | exit i =>
      change (bif Nat.beq i id then Q .normal e1 h1 L1 else Q (.exit i) e1 h1 L1) at hq
      by_cases hi : i = id
      · have hb : Nat.beq i id = true := by rw [hi]; exact Nat.beq_refl id
        rw [hb] at hq
        exact ⟨.normal, env1, h1, L1, e1, ag1, hq, N0, fun N M hN' hM => by simp only [execL, hN N M hN' hM, if_pos hi]⟩
      · rw [beq_no hi] at hq
        exact ⟨.exit i, env1, h1, L1, e1, ag1, hq, N0, fun N M hN' hM => by simp only [execL, hN N M hN' hM, if_neg hi]⟩
  | .loop b, Q, e, env, h, L, ag, hw => by
    change VLoop C base n inR b Q e h L at hw
    obtain ⟨hw⟩ := hw
    obtain ⟨x, env1, h1, L1, e1, ag1, hq, N0, hN⟩ := hw env ag
    exact ⟨x, env1, h1, L1, e1, ag1, hq, N0, fun N M hN' hM => by simp only [execL]; exact hN N M N hN' hM hN'⟩
  | .exit id, Q, e, env, h, L, ag, hw => ⟨.exit id, env, h, L, e, ag, hw, 0, fun _ _ _ _ => rfl⟩
  | .ret, Q, e, env, h, L, ag, hw => ⟨.ret, env, h, L, e, ag, hw, 0, fun _ _ _ _ => rfl⟩
  | .rangeFunc g ps assign body, Q, e, env, h, L, ag, hw => by
    cases inR with
    | true => exact hw.elim
    | false =>
      change wRange C base n false g ps assign body Q e h L at hw
      unfold wRange at hw
      simp only at hw
      split at hw
      case h_2 => exact hw.elim
      rename_i f first captured hg
      obtain ⟨hw⟩ := hw
      have hv := hw env ag
      obtain ⟨hb, v, h', L', ⟨N0, hN⟩, hk⟩ := hv
      have hg' := (evalA_F ag g).trans hg
      split at hk
      case h_2 => exact hk.elim
      rename_i r L1
      split at hk
      · rename_i hj
        exact ⟨.normal, env, h', L1, e, ag, hk, N0, fun N M hN' hM => by simp only [execL, Bool.false_eq_true, if_false, hg', hb, if_true, hN M hM, hj]⟩
      · exact hk.elim
      · rename_i x hne hj
        refine ⟨x, env, h', L1, e, ag, hk, N0, fun N M hN' hM => ?_⟩
        simp only [execL, Bool.false_eq_true, if_false, hg', hb, if_true, hN M hM, hj]
  | .scope _, Q, e, env, h, L, ag, hw => hw.elim
  | .label _, Q, e, env, h, L, ag, hw => hw.elim
  | .goto _, Q, e, env, h, L, ag, hw => hw.elim
  | .refuse _, Q, e, env, h, L, ag, hw => hw.elim

/-- a loop, by what holds ahead of each round -/
theorem VLoop.inv {inR : Bool} {b : Code} {Q : Post} (I : Nat → Env → Heap → LS → Prop)
    (step : ∀ k e h L, I k e h L → W C base n inR b (fun x e' h' L' => match x with
      | .normal => ∃ k', k' < k ∧ I k' e' h' L'
      | x => Q x e' h' L') e h L) {k : Nat} (hi : I k e h L) : VLoop C base n inR b Q e h L := by
  refine .mk ?_
  intro env ag
  induction k using Nat.strongRecOn generalizing e h L env with
  | ind k ih =>
    obtain ⟨x1, env1, h1, L1, e1, ag1, hq, N0, hN⟩ := W_ok ag (step k e h L hi)
    cases x1 with
    | normal =>
      obtain ⟨k', hk, hi'⟩ := hq
      obtain ⟨x2, env2, h2, L2, e2, ag2, hq2, N1, hN1⟩ := ih k' hk hi' env1 ag1
      refine ⟨x2, env2, h2, L2, e2, ag2, hq2, max N0 N1 + 1, fun N M K hN' hM hK => ?_⟩
      obtain ⟨K', rfl⟩ : ∃ K', K = K' + 1 := ⟨K - 1, by omega⟩
      simp only [loopL, hN N M (by omega) (by omega)]
      exact hN1 N M K' (by omega) (by omega) (by omega)
    | exit i =>
      refine ⟨.exit i, env1, h1, L1, e1, ag1, hq, N0 + 1, fun N M K hN' hM hK => ?_⟩
      obtain ⟨K', rfl⟩ : ∃ K', K = K' + 1 := ⟨K - 1, by omega⟩
      simp only [loopL, hN N M (by omega) (by omega)]
    | ret =>
      refine ⟨.ret, env1, h1, L1, e1, ag1, hq, N0 + 1, fun N M K hN' hM hK => ?_⟩
      obtain ⟨K', rfl⟩ : ∃ K', K = K' + 1 := ⟨K - 1, by omega⟩
      simp only [loopL, hN N M (by omega) (by omega)]

/-- a loop that turns no heap, nor the loops under way -/
theorem VLoop.still {inR : Bool} {b : Code} {Q : Post} (I : Nat → Env → Prop)
    (step : ∀ k e, I k e → W C base n inR b (fun x e' h' L' => match x with
      | .normal => h' = h ∧ L' = L ∧ ∃ k', k' < k ∧ I k' e'
      | x => Q x e' h' L') e h L) {k : Nat} (hi : I k e) : VLoop C base n inR b Q e h L := by
  refine .mk ?_
  intro env ag
  induction k using Nat.strongRecOn generalizing e env with
  | ind k ih =>
    obtain ⟨x1, env1, h1, L1, e1, ag1, hq, N0, hN⟩ := W_ok ag (step k e hi)
    cases x1 with
    | normal =>
      obtain ⟨rfl, rfl, k', hk, hi'⟩ := hq
      obtain ⟨x2, env2, h2, L2, e2, ag2, hq2, N1, hN1⟩ := ih k' hk hi' env1 ag1
      refine ⟨x2, env2, h2, L2, e2, ag2, hq2, max N0 N1 + 1, fun N M K hN' hM hK => ?_⟩
      obtain ⟨K', rfl⟩ : ∃ K', K = K' + 1 := ⟨K - 1, by omega⟩
      simp only [loopL, hN N M (by omega) (by omega)]
      exact hN1 N M K' (by omega) (by omega) (by omega)
    | exit i =>
      refine ⟨.exit i, env1, h1, L1, e1, ag1, hq, N0 + 1, fun N M K hN' hM hK => ?_⟩
      obtain ⟨K', rfl⟩ : ∃ K', K = K' + 1 := ⟨K - 1, by omega⟩
      simp only [loopL, hN N M (by omega) (by omega)]
    | ret =>
      refine ⟨.ret, env1, h1, L1, e1, ag1, hq, N0 + 1, fun N M K hN' hM hK => ?_⟩
      obtain ⟨K', rfl⟩ : ∃ K', K = K' + 1 := ⟨K - 1, by omega⟩
      simp only [loopL, hN N M (by omega) (by omega)]

/-- a loop that turns no loops under way -/
theorem VLoop.invL {inR : Bool} {b : Code} {Q : Post} (I : Nat → Env → Heap → Prop)
    (step : ∀ k e h, I k e h → W C base n inR b (fun x e' h' L' => match x with
      | .normal => L' = L ∧ ∃ k', k' < k ∧ I k' e' h'
      | x => Q x e' h' L') e h L) {k : Nat} (hi : I k e h) : VLoop C base n inR b Q e h L := by
  refine .mk ?_
  intro env ag
  induction k using Nat.strongRecOn generalizing e h env with
  | ind k ih =>
    obtain ⟨x1, env1, h1, L1, e1, ag1, hq, N0, hN⟩ := W_ok ag (step k e h hi)
    cases x1 with
    | normal =>
      obtain ⟨rfl, k', hk, hi'⟩ := hq
      obtain ⟨x2, env2, h2, L2, e2, ag2, hq2, N1, hN1⟩ := ih k' hk hi' env1 ag1
      refine ⟨x2, env2, h2, L2, e2, ag2, hq2, max N0 N1 + 1, fun N M K hN' hM hK => ?_⟩
      obtain ⟨K', rfl⟩ : ∃ K', K = K' + 1 := ⟨K - 1, by omega⟩
      simp only [loopL, hN N M (by omega) (by omega)]
      exact hN1 N M K' (by omega) (by omega) (by omega)
    | exit i =>
      refine ⟨.exit i, env1, h1, L1, e1, ag1, hq, N0 + 1, fun N M K hN' hM hK => ?_⟩
      obtain ⟨K', rfl⟩ : ∃ K', K = K' + 1 := ⟨K - 1, by omega⟩
      simp only [loopL, hN N M (by omega) (by omega)]
    | ret =>
      refine ⟨.ret, env1, h1, L1, e1, ag1, hq, N0 + 1, fun N M K hN' hM hK => ?_⟩
      obtain ⟨K', rfl⟩ : ∃ K', K = K' + 1 := ⟨K - 1, by omega⟩
      simp only [loopL, hN N M (by omega) (by omega)]

theorem resF_ok (ag : AgreeF env e) : ∀ {rs : List ResultVar} {K : List AVal → Prop}, resF P e h rs K → ∃ vs, mapO (resA P (env, h)) rs = some vs ∧ K vs
  | [], K, hr => ⟨[], rfl, hr⟩
  | .tmp t :: rs, K, hr => by
    change resF P e h rs (fun vs => K (e t :: vs)) at hr
    obtain ⟨vs, h1, hk⟩ := resF_ok ag hr
    exact ⟨e t :: vs, by simp only [mapO, resA, h1, ag t], hk⟩
  | .cell a t :: rs, K, hr => by
    change wload P t (e a) h (fun v => resF P e h rs fun vs => K (v :: vs)) at hr
    obtain ⟨v, h0, hr⟩ := wload_ok hr
    obtain ⟨vs, h1, hk⟩ := resF_ok ag hr
    exact ⟨v :: vs, by simp only [mapO, resA, h1, ag a, h0], hk⟩

theorem argsE_get : ∀ (args : List AVal) (k i : Nat), k ≤ i → argsE k args i = getX args (i - k)
  | [], k, i, hi => rfl
  | v :: vs, k, i, hi => by
    unfold argsE put
    by_cases h : i = k
    · subst h; simp [getX]
    · have : Nat.beq i k = false := beq_no h
      rw [this]
      simp only [cond_false]
      rw [argsE_get vs (k + 1) i (by omega)]
      obtain ⟨j, hj⟩ : ∃ j, i - k = j + 1 := ⟨i - k - 1, by omega⟩
      rw [hj, show i - (k + 1) = j by omega]
      rfl

theorem WF_ok {f : FuncId} {fn : Func} (hf : C.P.funcs[f]? = some fn) {args : List AVal} {K : AVal → Heap → LS → Prop} (hw : WF C base fn args h L K) :
    bodied C.P f = true ∧ ∃ v h' L', K v h' L' ∧ ∃ N0, ∀ M, N0 ≤ M → runL C M base (.fn f) args h L = some (v, h', L') := by
  unfold WF at hw
  split at hw
  case h_2 => exact hw.elim
  rename_i c hc
  obtain ⟨hle, hw⟩ := Kcond_F hw
  have hle := Nat.le_of_ble_eq_true hle
  have ag : AgreeF args (argsE 0 args) := fun i => by rw [argsE_get args 0 i (Nat.zero_le _)]; rfl
  obtain ⟨x, env1, h1, L1, e1, ag1, hq, N0, hN⟩ := W_ok ag hw
  refine ⟨by simp [bodied, hf, hc], ?_⟩
  have key : ∀ {x : Ex}, (∀ i, x ≠ .exit i) → EvR C base fn.ntmps false c (args, h, L) (x, env1, h1, L1) → (resF C.P e1 h1 fn.results.toList fun vs => match vs with
    | [v] => Kv3 v fun v => K v h1 L1
    | vs => Kv3 (.tup vs) fun v => K v h1 L1) → ∃ v h' L', K v h' L' ∧ ∃ N0, ∀ M, N0 ≤ M → runL C M base (.fn f) args h L = some (v, h', L') := by
    intro x hx ⟨N0, hN⟩ hr
    obtain ⟨vs, hvs, hk⟩ := resF_ok ag1 hr
    have : ∃ v, finishA C.P fn (env1, h1) = some v ∧ K v h1 L1 := by
      unfold finishA
      rw [hvs]
      match vs, hk with
      | [v], hk => exact ⟨v, rfl, Kv3_iff.1 hk⟩
      | [], hk => exact ⟨_, rfl, Kv3_iff.1 hk⟩
      | _ :: _ :: _, hk => exact ⟨_, rfl, Kv3_iff.1 hk⟩
    obtain ⟨v, hv, hk⟩ := this
    refine ⟨v, h1, L1, hk, N0 + 1, fun M hM => ?_⟩
    obtain ⟨M', rfl⟩ : ∃ M', M = M' + 1 := ⟨M - 1, by omega⟩
    simp only [runL, hf, hc, if_neg (show ¬ fn.ntmps < args.length by omega), hN M' M' (by omega) (by omega)]
    cases x with
    | exit i => exact absurd rfl (hx i)
    | normal => simp only [hv]
    | ret => simp only [hv]
  cases x with
  | exit i => exact hq.elim
  | normal => exact key (fun i h => by cases h) ⟨N0, hN⟩ hq
  | ret => exact key (fun i h => by cases h) ⟨N0, hN⟩ hq

/-! ### calls -/
theorem VCall.full {f : FuncId} {fn : Func} (hf : C.P.funcs[f]? = some fn) (hx : C.ext f = none) (hk : C.kind f = .full) {args : List AVal} {K : AVal → Heap → LS → Prop} (hw : WF C base fn args h L K) : VCall C base f args h L K := by
  obtain ⟨hb, v, h', L', hq, N0, hN⟩ := WF_ok hf hw
  exact ⟨hb, v, h', L', ⟨N0, fun M hM => by simp only [doCallL, hx, hk]; exact hN M hM⟩, hq⟩

theorem VCall.grow {f : FuncId} {fn : Func} (hf : C.P.funcs[f]? = some fn) (hx : C.ext f = none) (hk : C.kind f = .grow) {args : List AVal} {K : AVal → Heap → LS → Prop} (hw : WF C h.length fn args h [] fun v h' _ => K v h' L) : VCall C base f args h L K := by
  obtain ⟨hb, v, h', L', hq, N0, hN⟩ := WF_ok hf hw
  exact ⟨hb, v, h', L, ⟨N0, fun M hM => by simp only [doCallL, hx, hk, hN M hM]⟩, hq⟩

theorem VCall.pure {f : FuncId} {fn : Func} (hf : C.P.funcs[f]? = some fn) (hx : C.ext f = none) (hk : C.kind f = .pure) {args : List AVal} {K : AVal → Heap → LS → Prop}
    (hw : WF C h.length fn args h [] fun v h' _ => Kopt (frz C.P 9 true h.length h' v) fun u => K u h L) : VCall C base f args h L K := by
  obtain ⟨hb, v, h', L', hq, N0, hN⟩ := WF_ok hf hw
  obtain ⟨u, hu, hq⟩ := Kopt_iff.1 hq
  exact ⟨hb, u, h, L, ⟨N0, fun M hM => by simp only [doCallL, hx, hk, hN M hM, hu]⟩, hq⟩

theorem VCall.closed {f : FuncId} {fn : Func} (hf : C.P.funcs[f]? = some fn) (hx : C.ext f = none) (hk : C.kind f = .closed) {args as : List AVal} (ha : mapO (frz C.P 9 true 0 []) args = some as) {K : AVal → Heap → LS → Prop}
    (hw : WF C 0 fn as [] [] fun v h' _ => Kopt (frz C.P 9 true 0 h' v) fun u => K u h L) : VCall C base f args h L K := by
  obtain ⟨hb, v, h', L', hq, N0, hN⟩ := WF_ok hf hw
  obtain ⟨u, hu, hq⟩ := Kopt_iff.1 hq
  exact ⟨hb, u, h, L, ⟨N0, fun M hM => by simp only [doCallL, hx, hk, ha, hN M hM, hu]⟩, hq⟩

theorem VCall.closed' {f : FuncId} {fn : Func} (hf : C.P.funcs[f]? = some fn) (hx : C.ext f = none) (hk : C.kind f = .closed) {args as : List AVal} (hn : mapO (frz C.P 9 true 0 []) args = none) (ha : mapO (frz C.P 9 true 0 h) args = some as) {K : AVal → Heap → LS → Prop}
    (hw : WF C 0 fn as [] [] fun v _ _ => flatR v = true ∧ K v h L) : VCall C base f args h L K := by
  obtain ⟨hb, v, h', L', ⟨hfl, hq⟩, N0, hN⟩ := WF_ok hf hw
  exact ⟨hb, v, h, L, ⟨N0, fun M hM => by simp only [doCallL, hx, hk, hn, ha, hN M hM, hfl, if_true]⟩, hq⟩
end Go.Abs
