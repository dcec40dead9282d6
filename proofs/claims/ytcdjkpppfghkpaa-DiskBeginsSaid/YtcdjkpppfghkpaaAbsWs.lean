/-
  The reckoner of conditions against the machine of values: one operation.
-/
import Derived.Test.YtcdjkpppfghkpaaAbsW
set_option linter.unusedSimpArgs false
set_option linter.unusedVariables false
namespace Go.Abs
open Go

variable {C : Cfg} {P : Program} {base : Nat} {slot : Option Nat} {e : Env} {env : List AVal} {h h' : Heap} {L L' : LS}

/-! ### what lies bare -/
theorem Kv1_iff {v : AVal} {K : AVal → Prop} : Kv1 v K ↔ K v := by
  unfold Kv1
  cases v with
  | ptr p => rcases p with _ | ⟨l, o⟩ <;> rfl
  | _ => rfl
theorem Kl1_iff {vs : List AVal} {K : List AVal → Prop} : Kl1 vs K ↔ K vs := by
  induction vs generalizing K with
  | nil => rfl
  | cons v vs ih =>
    show Kl1s v (Kl1 vs) K ↔ _
    simp only [Kl1s, Kv1_iff, ih]
theorem Kv2_iff {v : AVal} {K : AVal → Prop} : Kv2 v K ↔ K v := by
  unfold Kv2
  cases v with
  | ptr p => rcases p with _ | ⟨l, o⟩ <;> rfl
  | func f a c => simp only [Kl1_iff]
  | agg cs => simp only [Kl1_iff]
  | _ => rfl
theorem Kl2_iff {vs : List AVal} {K : List AVal → Prop} : Kl2 vs K ↔ K vs := by
  induction vs generalizing K with
  | nil => rfl
  | cons v vs ih =>
    show Kl2s v (Kl2 vs) K ↔ _
    simp only [Kl2s, Kv2_iff, ih]
theorem Kv3_iff {v : AVal} {K : AVal → Prop} : Kv3 v K ↔ K v := by
  unfold Kv3
  cases v with
  | ptr p => rcases p with _ | ⟨l, o⟩ <;> rfl
  | func f a c => simp only [Kl1_iff]
  | agg cs => simp only [Kl1_iff]
  | tup cs => simp only [Kl2_iff]
  | _ => rfl
theorem Kopt_iff {α : Type} {x : Option α} {K : α → Prop} : Kopt x K ↔ ∃ v, x = some v ∧ K v := by
  cases x with
  | none => simp [Kopt]
  | some v => simp [Kopt]
theorem Kcond_iff {b : Bool} {A B : Prop} : Kcond b A B ↔ if b = true then A else B := by cases b <;> simp [Kcond]
theorem Ksz_iff {n : Nat} {K : Nat → Prop} : Ksz n K ↔ K n := by
  unfold Ksz
  have key : ∀ (m : Nat) (A : Prop), (A ↔ K n) → ((bif Nat.beq n m then K m else A) ↔ K n) := by
    intro m A hA
    cases hb : Nat.beq n m with
    | false => exact hA
    | true => rw [Nat.eq_of_beq_eq_true hb]; exact Iff.rfl
  exact key _ _ (key _ _ (key _ _ (key _ _ (key _ _ (key _ _ (key _ _ (key _ _ (key _ _ (key _ _ (key _ _ (key _ _ (key _ _ (key _ _ Iff.rfl)))))))))))))
theorem Kcond_F {b : Bool} {A : Prop} (h : Kcond b A False) : b = true ∧ A := by cases b <;> simp_all [Kcond]

/-! ### operands -/
def AgreeF (env : List AVal) (e : Env) : Prop := ∀ i, getX env i = e i
theorem evalA_F (ag : AgreeF env e) (x : Operand) : evalA env x = evalF e x := by
  cases x <;> simp [evalA, evalF, ag _]
theorem evalsA_F (ag : AgreeF env e) : ∀ xs, evalsA env xs = evalsF e xs
  | [] => rfl
  | x :: xs => by simp only [evalsA, evalsF, evalA_F ag, evalsA_F ag xs]; rfl
theorem evalO_F (ag : AgreeF env e) (x : Option Operand) : evalO env x = evalOF e x := by
  cases x <;> simp [evalO, evalOF, evalA_F ag]
theorem partsA_F (ag : AgreeF env e) : ∀ xs, partsA env xs = partsF e xs
  | [] => rfl
  | (i, x) :: xs => by simp only [partsA, partsF, evalA_F ag, partsA_F ag xs]; rfl
theorem beq_no {a b : Nat} (hn : a ≠ b) : Nat.beq a b = false := by
  cases hb : Nat.beq a b with
  | false => rfl
  | true => exact absurd (Nat.eq_of_beq_eq_true hb) hn
theorem AgreeF.put (ag : AgreeF env e) (i : Nat) (v : AVal) : AgreeF (setX env i v) (Go.Abs.put e i v) := by
  intro j
  rw [getX_setX]
  unfold Go.Abs.put
  by_cases h : i = j
  · subst h; simp
  · have : Nat.beq j i = false := beq_no fun hh => h hh.symm
    simp [h, this, ag j]
theorem AgreeF.again (ag : AgreeF env e) {d : Nat} {v : AVal} (hv : e d = v) : AgreeF env (Go.Abs.put e d v) := by
  intro j
  unfold Go.Abs.put
  by_cases h : j = d
  · subst h; simp [ag j, hv]
  · have : Nat.beq j d = false := beq_no h
    simp [this, ag j]

/-! ### what a reckoner asks gives what the machine does -/
theorem ofByte_one (bs : List UInt8) : (bs.map ofByte).all AVal.one = true := by
  simp [List.all_eq_true, ofByte, AVal.one]

theorem boundA_of {x : Option AVal} {d y : Nat} {b : Int} (hb : boundF d x = some b) (h0 : 0 ≤ b) (h1 : b ≤ y) (hd : x = none → d ≤ y) : boundA x d y = some b.toNat := by
  cases x with
  | none => simp [boundF] at hb; subst hb; simp [boundA]
  | some v =>
    cases v <;> simp [boundF] at hb
    subst hb
    simp [boundA, h0, h1]

theorem wslice_ok {t : TypeId} {x : AVal} {lo hi mx : Option AVal} {K : AVal → Prop} (hw : wslice P t x lo hi mx K) : ∃ v, sliceA P t x lo hi mx = some v ∧ K v := by
  unfold wslice at hw
  split at hw
  · rename_i s
    split at hw
    case h_2 => exact hw.elim
    rename_i hu
    simp only [Kopt_iff] at hw
    obtain ⟨b, hb, a, ha, ⟨h1, h2, h3⟩, hk⟩ := hw
    refine ⟨_, ?_, hk⟩
    simp only [sliceA, hu]
    rw [boundA_of hb (by omega) h3 (fun _ => Nat.le_refl _)]
    simp only [Option.isNone_none, gd, if_true, Option.pure_def, Option.bind_eq_bind, Option.bind_some]
    rw [boundA_of (y := b.toNat) ha h1 (by omega) (fun _ => Nat.zero_le _)]
    rfl
  · rename_i l off len cap
    split at hw
    case h_2 => exact hw.elim
    rename_i e' hu
    simp only [Kopt_iff, Ksz_iff] at hw
    obtain ⟨sz, hsz, b, hb, a, ha, hw⟩ := hw
    cases cap with
    | some c =>
      obtain ⟨⟨h1, h2, h3⟩, hk⟩ := hw
      refine ⟨_, ?_, hk⟩
      simp only [sliceA, hu, hsz]
      simp only [Option.pure_def, Option.bind_eq_bind, Option.bind_some, Option.getD_some, Option.map_some]
      rw [boundA_of hb (by omega) h3 (fun hn => by subst hn; simp [boundF] at hb; subst hb; omega)]
      simp only [Option.bind_some]
      rw [boundA_of (y := b.toNat) ha h1 (by omega) (fun _ => Nat.zero_le _)]
      rfl
    | none =>
      obtain ⟨⟨h1, h2, h3⟩, hk⟩ := hw
      refine ⟨_, ?_, hk⟩
      simp only [sliceA, hu, hsz]
      simp only [Option.pure_def, Option.bind_eq_bind, Option.bind_some, Option.getD_none, Option.map_none]
      rw [boundA_of hb (by omega) h3 (fun hn => by subst hn; simp [boundF] at hb; subst hb; omega)]
      simp only [Option.bind_some]
      rw [boundA_of (y := b.toNat) ha h1 (by omega) (fun _ => Nat.zero_le _)]
      rfl
  · rename_i n xs
    split at hw
    case h_2 => exact hw.elim
    rename_i e' hu
    simp only [Kopt_iff] at hw
    obtain ⟨sz, hsz, b, hb, a, ha, ⟨h1, h2, h3⟩, h4, hk⟩ := hw
    refine ⟨_, ?_, hk⟩
    simp only [sliceA, hu, hsz]
    simp only [Option.isNone_none, gd, if_true, Option.pure_def, Option.bind_eq_bind, Option.bind_some]
    rw [boundA_of hb (by omega) h3 (fun _ => Nat.le_refl _)]
    simp only [Option.bind_some]
    rw [boundA_of (y := b.toNat) ha h1 (by omega) (fun _ => Nat.zero_le _)]
    simp only [Option.bind_some]
    have : (decide (a.toNat = 0) || xs.all fun c => c.length == sz) = true := by
      rcases h4 with h4 | h4
      · subst h4; simp
      · simp only [Bool.or_eq_true, List.all_eq_true, beq_iff_eq]; exact .inr h4
    rw [if_pos this]
    rfl
  · exact Kopt_iff.1 hw

theorem windexAddr_ok {t : TypeId} {x ix : AVal} {K : AVal → Prop} (hw : windexAddr P t x ix K) : ∃ v, indexAddrA P t x ix = some v ∧ K v := by
  unfold windexAddr at hw
  split at hw
  · split at hw
    case h_2 => exact hw.elim
    rename_i e' hu
    simp only [Kopt_iff, Ksz_iff] at hw
    obtain ⟨i, hi, sz, hsz, h1, hk⟩ := hw
    cases ix <;> simp [intOf] at hi
    subst hi
    refine ⟨_, ?_, hk⟩
    simp only [indexAddrA, hu, hsz, if_pos h1, Option.map_some]
  · split at hw
    case h_2 => exact hw.elim
    rename_i e' hu
    simp only [Kopt_iff] at hw
    obtain ⟨i, hi, c, h1, h2, h3, hk⟩ := hw
    cases ix <;> simp [intOf] at hi
    subst hi
    refine ⟨_, ?_, hk⟩
    simp only [indexAddrA, hu, if_pos h1, h2, h3, if_true]
  · exact Kopt_iff.1 hw

theorem windex_ok {t : TypeId} {x ix : AVal} {K : AVal → Prop} (hw : windex P t x ix K) : ∃ v, indexA P t x ix = some v ∧ K v := by
  unfold windex at hw
  split at hw
  · split at hw
    case h_2 => exact hw.elim
    rename_i hu
    simp only [Kopt_iff] at hw
    obtain ⟨i, hi, b, h1, h2, hk⟩ := hw
    cases ix <;> simp [intOf] at hi
    subst hi
    refine ⟨_, ?_, hk⟩
    simp only [indexA, hu, if_pos h1, h2]
  · exact Kopt_iff.1 hw

theorem wload_ok {t : TypeId} {p : AVal} {K : AVal → Prop} (hw : wload P t p h K) : ∃ v, loadA P h t p = some v ∧ K v := by
  unfold wload at hw
  split at hw
  · simp only [Kopt_iff] at hw
    obtain ⟨b, hb, v, hv, hk⟩ := hw
    exact ⟨v, by simp only [loadA, hb, hv], hk⟩
  · exact Kopt_iff.1 hw
  · exact hw.elim

theorem wconv_ok {s d : TypeId} {x : AVal} {K : AVal → Heap → Prop} (hw : wconv P h slot s d x K) : ∃ v h', convA P h slot s d x = some (v, h') ∧ K v h' := by
  unfold wconv at hw
  split at hw
  · rename_i l off len cp
    split at hw
    case h_2 => exact hw.elim
    rename_i e' hs hd
    obtain ⟨hu, hw⟩ := Kcond_F hw
    obtain ⟨b, hb, h1, bs, h2, hk⟩ := hw
    refine ⟨_, _, ?_, hk⟩
    simp only [convA, hs, hd, hu, if_true, lenA, srcCells, hb, Nat.mul_one, Nat.le_refl, true_and, if_pos h1, Option.bind_eq_bind, Option.bind_some, gd, h2]
  · rename_i n xs
    split at hw
    case h_2 => exact hw.elim
    rename_i e' hs hd
    obtain ⟨hu, hw⟩ := Kcond_F hw
    obtain ⟨h1, bs, h2, hk⟩ := hw
    refine ⟨_, _, ?_, hk⟩
    have : (xs.all fun c => c.length == 1) = true := by
      simp only [List.all_eq_true, beq_iff_eq]; exact h1
    simp only [convA, hs, hd, hu, if_true, lenA, srcCells, Nat.le_refl, true_and, Option.bind_eq_bind, Option.bind_some, gd, List.take_length, this, h2]
  · split at hw
    · rename_i e' hs hd
      obtain ⟨hu, hw⟩ := Kcond_F hw
      obtain ⟨l, h', h1, hk⟩ := hw
      refine ⟨_, _, ?_, hk⟩
      simp only [convA, hs, hd, hu, if_true, h1, Option.bind_eq_bind, Option.bind_some]
    · simp only [Kopt_iff] at hw
      obtain ⟨r, h1, hk⟩ := hw
      exact ⟨r.1, r.2, h1, hk⟩
  · simp only [Kopt_iff] at hw
    obtain ⟨r, h1, hk⟩ := hw
    exact ⟨r.1, r.2, h1, hk⟩

theorem buildCells_ok {t : TypeId} {n : Nat} {ps : List (Nat × AVal)} {c : TypeId × List AVal} (hc : buildCells P t n ps = some c) {l : Nat} (ha : halloc h slot ⟨c.2, c.1, false⟩ = some (l, h')) :
    buildSliceA P h slot t n ps = some (.own l 0 n (some n), h') := by
  unfold buildCells at hc
  unfold buildSliceA
  simp only [Option.bind_eq_bind, Option.bind_eq_some_iff] at hc
  obtain ⟨e', h1, s, h2, u, h3, z, h4, u', h5, cells, h6, h7⟩ := hc
  simp at h7; subst h7
  simp only [h1, h2, h3, h4, h5, h6, ha, Option.bind_eq_bind, Option.bind_some]

theorem buildF_eq {t : TypeId} {ps : List (Nat × AVal)} : buildF P t ps = buildA P t ps := by
  unfold buildF buildA
  split
  · rename_i z fields hz hu
    simp only [hz, hu, Array.all_toList, cond_eq_ite]
  · rename_i hz hu
    simp only [hz, hu]
    rfl
  · rename_i h1 h2
    split
    · rename_i z fields hz hu; exact absurd hu (h1 _ _ hz)
    · rename_i z n e' hz hu; exact absurd hu (h2 _ _ _ hz)
    · rfl

theorem arithOf_ok {o : BinOp} {t : TypeId} {a b : AVal} {z : Int} (hz : arithOf o a b = some z) : binA P o t a b = some (.int .i64 (IntKind.wrap .i64 z)) := by
  unfold arithOf at hz
  split at hz
  · simp at hz; subst hz; rfl
  · simp at hz; subst hz; rfl
  · simp at hz; subst hz; rfl
  · split at hz
    · cases hz
    · rename_i hb
      simp at hz; subst hz; simp only [binA, if_true, if_neg hb]
  · cases hz
theorem catOf_ok {o : BinOp} {t : TypeId} {a b : AVal} {s s' : List UInt8} (hz : catOf o a b = some (s, s')) (hl : s.length + s'.length ≤ 9223372036854775807) : binA P o t a b = some (.str (s ++ s')) := by
  unfold catOf at hz
  split at hz
  · simp at hz; obtain ⟨rfl, rfl⟩ := hz; simp [binA, hl]
  · cases hz

/-- what an operation's conditions give -/
theorem wop_A (ag : AgreeF env e) {op : Op} {K : AVal → Heap → LS → Prop} (hw : wop C base slot e h L op K) :
    (∃ v h', K v h' L ∧ ∀ cl, opA C cl base slot env h op = some (v, h') ∧ ∀ clL : LCaller, ∀ r, opA C (plainC clL) base none env h op = r → opL C clL base env h L op = (match r with | some (v, h') => some (v, h', L) | none => none)) ∨
    (∃ c f g first captured args, op = .call c ∧ c.callee = .value f ∧ evalA env f = some (.func g first captured) ∧ evalsA env c.args.toList = some args ∧ VCall C base g (first ++ args ++ captured) h L K) ∨
    (∃ c f y args, op = .call c ∧ c.callee = .value f ∧ evalA env f = some (.yld y) ∧ evalsA env c.args.toList = some args ∧ VYld C base y args h L K) := by
  have oth : (∀ c f, op = .call c → c.callee ≠ .value f) → (∃ v h', K v h' L ∧ ∀ cl, opA C cl base slot env h op = some (v, h')) → (∃ v h', K v h' L ∧ ∀ cl, opA C cl base slot env h op = some (v, h') ∧ ∀ clL : LCaller, ∀ r, opA C (plainC clL) base none env h op = r → opL C clL base env h L op = (match r with | some (v, h') => some (v, h', L) | none => none)) := by
    rintro hn ⟨v, h', hk, ho⟩
    refine ⟨v, h', hk, fun cl => ⟨ho cl, fun clL r hr => ?_⟩⟩
    subst hr
    unfold opL
    simp only
    split
    · split
      · rename_i c _ f hf; exact absurd hf (hn c f rfl)
      · rfl
    · rfl
  unfold wop at hw
  simp only [Kopt_iff] at hw
  split at hw
  · obtain ⟨v, h1, hk⟩ := hw
    exact .inl (oth (fun _ _ h => by cases h) ⟨v, h, hk, fun cl => by simp only [opA, evalA_F ag, h1, Option.map_some]⟩)
  · obtain ⟨v, h1, hk⟩ := hw
    exact .inl (oth (fun _ _ h => by cases h) ⟨v, h, hk, fun cl => by simp only [opA, evalA_F ag, h1, Option.map_some]⟩)
  · rename_i c a b
    split at hw
    case h_2 => exact hw.elim
    rename_i p hc
    refine .inl (oth (fun _ _ h => by cases h) ?_)
    cases p with
    | true => obtain ⟨v, h1, hk⟩ := hw; exact ⟨v, h, hk, fun cl => by simp only [opA, evalA_F ag, hc, h1, Option.map_some]⟩
    | false => obtain ⟨v, h1, hk⟩ := hw; exact ⟨v, h, hk, fun cl => by simp only [opA, evalA_F ag, hc, h1, Option.map_some]⟩
  · obtain ⟨z, h1, hw⟩ := hw
    simp only [Kl1_iff] at hw
    obtain ⟨l, h', h2, hk⟩ := hw
    exact .inl (oth (fun _ _ h => by cases h) ⟨_, h', hk, fun cl => by simp only [opA, h1, h2, Option.bind_eq_bind, Option.bind_some]⟩)
  · obtain ⟨z, h1, hw⟩ := hw
    simp only [Kl1_iff] at hw
    obtain ⟨l, h', h2, hk⟩ := hw
    exact .inl (oth (fun _ _ h => by cases h) ⟨_, h', hk, fun cl => by simp only [opA, evalA_F ag, h1, h2, Option.bind_eq_bind, Option.bind_some]⟩)
  · obtain ⟨ps, h1, v, h2, hk⟩ := hw
    rw [buildF_eq] at h2
    exact .inl (oth (fun _ _ h => by cases h) ⟨_, h, hk, fun cl => by simp only [opA, partsA_F ag, h1, h2, Option.bind_eq_bind, Option.bind_some, Option.map_some]⟩)
  · obtain ⟨ps, h1, ⟨et, cs⟩, h2, hw⟩ := hw
    simp only [Kl1_iff] at hw
    obtain ⟨l, h', h3, hk⟩ := hw
    exact .inl (oth (fun _ _ h => by cases h) ⟨_, h', hk, fun cl => by simp only [opA, partsA_F ag, h1, Option.bind_eq_bind, Option.bind_some]; exact buildCells_ok h2 h3⟩)
  · obtain ⟨p, h1, hw⟩ := hw
    obtain ⟨v, h2, hk⟩ := wload_ok hw
    exact .inl (oth (fun _ _ h => by cases h) ⟨_, h, hk, fun cl => by simp only [opA, evalA_F ag, h1, h2, Option.bind_eq_bind, Option.bind_some, Option.map_some]⟩)
  · obtain ⟨p, h1, v, h2, hw⟩ := hw
    split at hw
    case h_2 => exact hw.elim
    simp only [Kl1_iff] at hw
    split at hw
    case h_2 => exact hw.elim
    rename_i n hn
    obtain ⟨h3, hw⟩ := Kcond_F hw
    obtain ⟨h', h4, hk⟩ := hw
    refine .inl (oth (fun _ _ h => by cases h) ⟨_, h', hk, fun cl => ?_⟩)
    have : n = v.cells.length := Nat.eq_of_beq_eq_true h3
    simp only [opA, evalA_F ag, h1, h2, Option.bind_eq_bind, Option.bind_some, storeA, hn, this, if_true, h4, Option.map_some]
  · split at hw
    · rename_i x p hx
      exact .inl (oth (fun _ _ h => by cases h) ⟨_, h, hw, fun cl => by simp only [opA, evalA_F ag, hx]⟩)
    · rename_i x p hx
      exact .inl (oth (fun _ _ h => by cases h) ⟨_, h, hw, fun cl => by simp only [opA, evalA_F ag, hx]⟩)
    · rename_i x p q r hx
      exact .inl (oth (fun _ _ h => by cases h) ⟨_, h, hw, fun cl => by simp only [opA, evalA_F ag, hx]⟩)
    · exact hw.elim
  · obtain ⟨a, h1, b, h2, hw⟩ := hw
    split at hw
    · rename_i z hz
      obtain ⟨hw⟩ := hw
      exact .inl (oth (fun _ _ h => by cases h) ⟨_, h, hw, fun cl => by simp only [opA, evalA_F ag, h1, h2, Option.bind_eq_bind, Option.bind_some, arithOf_ok hz, Option.map_some]⟩)
    · split at hw
      · rename_i s s' hs
        obtain ⟨h3, hk⟩ := hw
        exact .inl (oth (fun _ _ h => by cases h) ⟨_, h, hk, fun cl => by simp only [opA, evalA_F ag, h1, h2, Option.bind_eq_bind, Option.bind_some, catOf_ok hs h3, Option.map_some]⟩)
      · obtain ⟨v, h3, hk⟩ := hw
        exact .inl (oth (fun _ _ h => by cases h) ⟨_, h, hk, fun cl => by simp only [opA, evalA_F ag, h1, h2, h3, Option.bind_eq_bind, Option.bind_some, Option.map_some]⟩)
  · obtain ⟨a, h1, v, h2, hk⟩ := hw
    exact .inl (oth (fun _ _ h => by cases h) ⟨_, h, hk, fun cl => by simp only [opA, evalA_F ag, h1, h2, Option.bind_eq_bind, Option.bind_some, Option.map_some]⟩)
  · obtain ⟨a, h1, hw⟩ := hw
    obtain ⟨v, h', h2, hk⟩ := wconv_ok hw
    exact .inl (oth (fun _ _ h => by cases h) ⟨_, h', hk, fun cl => by simp only [opA, evalA_F ag, h1, h2, Option.bind_eq_bind, Option.bind_some]⟩)
  · obtain ⟨a, h1, b, h2, hk⟩ := hw
    exact .inl (oth (fun _ _ h => by cases h) ⟨_, h, hk, fun cl => by simp only [opA, evalsA_F ag, h1, h2, Option.bind_eq_bind, Option.bind_some]⟩)
  · obtain ⟨n, h1, m, h2, et, h3, s, h4, by_, h5, hw⟩ := hw
    rw [Ksz_iff] at hw
    obtain ⟨z, h6, hw⟩ := hw
    obtain ⟨h7, hw⟩ := Kcond_F hw
    split at hw
    case h_2 => exact hw.elim
    simp only [Kl1_iff] at hw
    obtain ⟨h8, l, h', h9, hk⟩ := hw
    refine .inl (oth (fun _ _ h => by cases h) ⟨_, h', hk, fun cl => ?_⟩)
    have : z.length = s := Nat.eq_of_beq_eq_true h7
    simp only [opA, evalA_F ag, h1, h2, Option.bind_eq_bind, Option.bind_some, makeSliceA, h3, h4, h5, h6, gd, this, decide_true, if_true, if_pos h8, h9]
  · obtain ⟨a, h1, l, h2, k, h3, m, h4, hw⟩ := hw
    obtain ⟨v, h5, hk⟩ := wslice_ok hw
    exact .inl (oth (fun _ _ h => by cases h) ⟨_, h, hk, fun cl => by simp only [opA, evalA_F ag, evalO_F ag, h1, h2, h3, h4, h5, Option.bind_eq_bind, Option.bind_some, Option.map_some]⟩)
  · obtain ⟨a, h1, hw⟩ := hw
    split at hw
    · rename_i l o
      obtain ⟨fd, h2, sz, h3, hw⟩ := hw
      have h4 : Nat.beq sz 0 = false ∧ Ksz fd.offset fun off => K (.ptr (some (l, o + off))) h L := by
        cases hb : Nat.beq sz 0 with
        | true => rw [hb] at hw; exact hw.elim
        | false => rw [hb] at hw; exact ⟨rfl, hw⟩
      have hk := Ksz_iff.1 h4.2
      have h5 : sz ≠ 0 := fun hz => by subst hz; cases h4.1
      exact .inl (oth (fun _ _ h => by cases h) ⟨_, h, hk, fun cl => by simp only [opA, evalA_F ag, h1, fieldAddrA, h2, h3, gd, h5, ne_eq, not_false_eq_true, decide_true, if_true, Option.bind_eq_bind, Option.bind_some, Option.map_some]⟩)
    · obtain ⟨v, h2, hk⟩ := hw
      exact .inl (oth (fun _ _ h => by cases h) ⟨_, h, hk, fun cl => by simp only [opA, evalA_F ag, h1, h2, Option.bind_eq_bind, Option.bind_some, Option.map_some]⟩)
  · obtain ⟨a, h1, v, h2, hk⟩ := hw
    exact .inl (oth (fun _ _ h => by cases h) ⟨_, h, hk, fun cl => by simp only [opA, evalA_F ag, h1, h2, Option.bind_eq_bind, Option.bind_some, Option.map_some]⟩)
  · obtain ⟨a, h1, n, h2, hw⟩ := hw
    obtain ⟨v, h3, hk⟩ := windexAddr_ok hw
    exact .inl (oth (fun _ _ h => by cases h) ⟨_, h, hk, fun cl => by simp only [opA, evalA_F ag, h1, h2, h3, Option.bind_eq_bind, Option.bind_some, Option.map_some]⟩)
  · obtain ⟨a, h1, n, h2, hw⟩ := hw
    obtain ⟨v, h3, hk⟩ := windex_ok hw
    exact .inl (oth (fun _ _ h => by cases h) ⟨_, h, hk, fun cl => by simp only [opA, evalA_F ag, h1, h2, h3, Option.bind_eq_bind, Option.bind_some, Option.map_some]⟩)
  · split at hw
    case h_2 => exact hw.elim
    rename_i vs hx
    obtain ⟨v, h1, hk⟩ := hw
    exact .inl (oth (fun _ _ h => by cases h) ⟨_, h, hk, fun cl => by simp only [opA, evalA_F ag, hx, h1]⟩)
  · rename_i c
    split at hw
    · rename_i b hb
      obtain ⟨args, h1, hw⟩ := hw
      refine .inl (oth (fun c' f hc => by cases hc; rw [hb]; simp) ?_)
      split at hw
      · obtain ⟨r, h2, hk⟩ := hw
        exact ⟨r.1, r.2, hk, fun cl => by simp only [opA, hb, evalsA_F ag, h1, h2, Option.bind_eq_bind, Option.bind_some]⟩
      · obtain ⟨r, h2, hk⟩ := hw
        exact ⟨r.1, r.2, hk, fun cl => by simp only [opA, hb, evalsA_F ag, h1, h2, Option.bind_eq_bind, Option.bind_some]⟩
      · obtain ⟨r, h2, hk⟩ := hw
        exact ⟨r.1, r.2, hk, fun cl => by simp only [opA, hb, evalsA_F ag, h1, h2, Option.bind_eq_bind, Option.bind_some]⟩
      · simp only [Kl2_iff] at hw
        obtain ⟨v, h', h2, hk⟩ := hw
        exact ⟨v, h', hk, fun cl => by simp only [opA, hb, evalsA_F ag, h1, h2, Option.bind_eq_bind, Option.bind_some]⟩
    · rename_i f hf
      split at hw
      · rename_i g first captured hg
        obtain ⟨args, h1, hw⟩ := hw
        rw [Kl2_iff] at hw
        exact .inr (.inl ⟨c, f, g, first, captured, args, rfl, hf, by rw [evalA_F ag, hg], by rw [evalsA_F ag, h1], hw⟩)
      · rename_i y hg
        obtain ⟨args, h1, hw⟩ := hw
        rw [Kl2_iff] at hw
        exact .inr (.inr ⟨c, f, y, args, rfl, hf, by rw [evalA_F ag, hg], by rw [evalsA_F ag, h1], hw⟩)
      · exact hw.elim
    · exact hw.elim
  · exact hw.elim
end Go.Abs
