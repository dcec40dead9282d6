import Derived.Test.YtcdjkpppfghkpaaAbsDraw
import Derived.Test.YtcdjkpppfghkpaaAbsRun
import Derived.Orders
section
/-
  A region whose order is open: any order does what the text's does.
-/
set_option linter.unusedSimpArgs false
set_option linter.unusedVariables false
namespace Go.Abs
open Go

variable {C : Cfg} {P : Program} {cl : Caller} {base n c : Nat} {all : List Oper} {bs : List Nat}
variable {S : Nat → DS} {vs : Nat → AVal}

/-- what a row shows before k, as the text goes -/
def Mv (c : Nat) (S : Nat → DS) (k l : Nat) : Option Blk := hget (mergeF c (fun _ => true) (S k).fl (S k).G) l

theorem TInv.view {k : Nat} (I : TInv C cl base n c all bs S vs k) (l : Nat) :
    (∃ j b, j < k ∧ Al C cl base c all S j b ∧ Loose C all bs S k j ∧ l = c + j ∧ Mv c S k l = some b) ∨
    ((∀ j b, j < k → Al C cl base c all S j b → Loose C all bs S k j → l ≠ c + j) ∧ Mv c S k l = hget (S k).G l) := by
  rcases mergeF_get (c := c) (p := fun _ => true) I.flLen I.flUniq l with ⟨j, b, h1, h2, h3, h4⟩ | ⟨h1, h2⟩
  · obtain ⟨g1, g2, g3⟩ := (I.fl j b).1 h1
    exact .inl ⟨j, b, g1, g2, g3, h3, h4⟩
  · exact .inr ⟨fun j b g1 g2 g3 => h1 j b ((I.fl j b).2 ⟨g1, g2, g3⟩) rfl, h2⟩

def Still (C : Cfg) (c : Nat) (all : List Oper) (S : Nat → DS) (k l : Nat) : Prop := ∀ o, all[k]? = some o → wantedA all (S k).env o = true → clsOf C.P o.op = .eff →
  ∃ T, touchOf C (S k).env (c + k) o.op = some T ∧ l ∉ T ∧ l < (S k).G.length

theorem view_same {k : Nat} {l : Nat} (hne : ¬ Eff C all S k) (I : TInv C cl base n c all bs S vs k) (I' : TInv C cl base n c all bs S vs (k + 1)) (hG : (S (k + 1)).G = (S k).G)
    (h1 : ∀ b, Al C cl base c all S k b → l ≠ c + k) : Mv c S (k + 1) l = Mv c S k l := by
  rcases I'.view l with ⟨j, b, g1, g2, g3, g4, g5⟩ | ⟨g1, g2⟩
  · have hjk : j ≠ k := fun e => by subst e; exact h1 b g2 g4
    rw [Loose.succ_not hne] at g3
    rcases I.view l with ⟨j', b', q1, q2, q3, q4, q5⟩ | ⟨q1, q2⟩
    · obtain rfl : j = j' := by omega
      rw [g5, q5, g2.uniq q2]
    · exact absurd g4 (q1 j b (by omega) g2 g3)
  · rcases I.view l with ⟨j', b', q1, q2, q3, q4, q5⟩ | ⟨q1, q2⟩
    · exact absurd q4 (g1 j' b' (by omega) q2 ((Loose.succ_not hne).2 q3))
    · rw [g2, q2, hG]

theorem TRun.view_step (R : TRun C cl base n c all bs S vs) (hcb : base ≤ c) {k l : Nat} (hk : k < all.length) (h1 : ∀ b, Al C cl base c all S k b → l ≠ c + k) (h2 : Still C c all S k l) : Mv c S (k + 1) l = Mv c S k l := by
  have I := R.inv hcb k (by omega)
  have I' := R.inv hcb (k + 1) (by omega)
  obtain ⟨o, ho⟩ : ∃ o, all[k]? = some o := ⟨all[k], List.getElem?_eq_getElem hk⟩
  have f := R.run k o ho
  have hnot : ∀ (Z : Cls), clsOf C.P o.op = Z → Z ≠ .eff → ¬ Eff C all S k := fun Z hz hne ⟨o', h1, h2, h3⟩ => by
    rw [ho] at h1; simp at h1; subst h1; rw [hz] at h3; exact hne h3
  generalize hs' : S (k + 1) = s' at f
  generalize hvk : vs k = vk at f
  cases f with
  | off hw hp => exact view_same (fun ⟨o', h1, h2, _⟩ => by rw [ho] at h1; simp at h1; subst h1; rw [hw] at h2; cases h2) I I' (by rw [hs']) h1
  | pure hw hc he hp => exact view_same (hnot _ hc (by simp)) I I' (by rw [hs']) h1
  | rd hw hc hr he hp => exact view_same (hnot _ hc (by simp)) I I' (by rw [hs']) h1
  | al hw hc he hb hp => exact view_same (hnot _ hc (by simp)) I I' (by rw [hs']) h1
  | @eff _ _ G' hw hc hr he hp =>
    have hE : Eff C all S k := ⟨o, ho, hw, hc⟩
    obtain ⟨T, t1, t2, t3⟩ := h2 o ho hw hc
    have ht : hget G' l = hget (mergeF c (waitsB bs k) (S k).fl (S k).G) l := opA_touch R.touch he t1 t2 (by rw [mergeF_length]; exact t3)
    have hG : (S (k + 1)).G = G' := by rw [hs']
    rcases I'.view l with ⟨j, b, g1, g2, g3, g4, g5⟩ | ⟨g1, g2⟩
    · have hjk : j ≠ k := fun e => by subst e; exact h1 b g2 g4
      rw [Loose.succ_eff hE] at g3
      rcases I.view l with ⟨j', b', q1, q2, q3, q4, q5⟩ | ⟨q1, q2⟩
      · obtain rfl : j = j' := by omega
        rw [g5, q5, g2.uniq q2]
      · exact absurd g4 (q1 j b (by omega) g2 g3.1)
    · rw [g2, hG, ht]
      rcases mergeF_get (c := c) (p := waitsB bs k) I.flLen I.flUniq l with ⟨j, b, p1, p2, p3, p4⟩ | ⟨p1, p2⟩
      · obtain ⟨r1, r2, r3⟩ := (I.fl j b).1 p1
        rcases I.view l with ⟨j', b', q1, q2, q3, q4, q5⟩ | ⟨q1, q2⟩
        · obtain rfl : j = j' := by omega
          rw [p4, q5, r2.uniq q2]
        · exact absurd p3 (q1 j b r1 r2 r3)
      · rcases I.view l with ⟨j', b', q1, q2, q3, q4, q5⟩ | ⟨q1, q2⟩
        · cases hw' : waitsB bs k j' with
          | true => exact absurd q4 (p1 j' b' ((I.fl j' b').2 ⟨q1, q2, q3⟩) hw')
          | false => exact absurd q4 (g1 j' b' (by omega) q2 ((Loose.succ_eff hE).2 ⟨q3, hw'⟩))
        · rw [p2, q2]

theorem TRun.view_const (R : TRun C cl base n c all bs S vs) (hcb : base ≤ c) {l : Nat} {k1 : Nat} : ∀ (d : Nat), k1 + d ≤ all.length → (∀ k, k1 ≤ k → k < k1 + d → (∀ b, Al C cl base c all S k b → l ≠ c + k) ∧ Still C c all S k l) →
    Mv c S (k1 + d) l = Mv c S k1 l
  | 0, _, _ => rfl
  | d + 1, hd, h => by
    have := R.view_step hcb (k := k1 + d) (l := l) (by omega) (h (k1 + d) (by omega) (by omega)).1 (h (k1 + d) (by omega) (by omega)).2
    rw [show k1 + (d + 1) = k1 + d + 1 by omega, this]
    exact R.view_const hcb d (by omega) fun k h1 h2 => h k h1 (by omega)

theorem TRun.view_between (R : TRun C cl base n c all bs S vs) (hcb : base ≤ c) {l p q : Nat} (hp : p ≤ all.length) (hq : q ≤ all.length)
    (h : ∀ k, (p ≤ k ∧ k < q ∨ q ≤ k ∧ k < p) → (∀ b, Al C cl base c all S k b → l ≠ c + k) ∧ Still C c all S k l) : Mv c S p l = Mv c S q l := by
  rcases Nat.le_total p q with hpq | hpq
  · have := R.view_const hcb (l := l) (k1 := p) (q - p) (by omega) fun k h1 h2 => h k (.inl ⟨h1, by omega⟩)
    rw [show p + (q - p) = q by omega] at this
    exact this.symm
  · have := R.view_const hcb (l := l) (k1 := q) (p - q) (by omega) fun k h1 h2 => h k (.inr ⟨h1, by omega⟩)
    rwa [show q + (p - q) = p by omega] at this

theorem TRun.G_step (R : TRun C cl base n c all bs S vs) {k : Nat} (hk : k < all.length) (hne : ¬ Eff C all S k) : (S (k + 1)).G = (S k).G := by
  obtain ⟨o, ho⟩ : ∃ o, all[k]? = some o := ⟨all[k], List.getElem?_eq_getElem hk⟩
  have f := R.run k o ho
  generalize hs' : S (k + 1) = s' at f
  generalize hvk : vs k = vk at f
  cases f with
  | eff hw hc hr he hp => exact absurd ⟨o, ho, hw, hc⟩ hne
  | _ => rfl

theorem TRun.G_const (R : TRun C cl base n c all bs S vs) {k1 : Nat} : ∀ (d : Nat), k1 + d ≤ all.length → (∀ k, k1 ≤ k → k < k1 + d → ¬ Eff C all S k) → (S (k1 + d)).G = (S k1).G
  | 0, _, _ => rfl
  | d + 1, hd, h => by
    rw [show k1 + (d + 1) = k1 + d + 1 by omega, R.G_step (by omega) (h _ (by omega) (by omega))]
    exact R.G_const d (by omega) fun k h1 h2 => h k h1 (by omega)

theorem Loose.between {p q j : Nat} (hpq : p ≤ q) (h : ∀ k, p ≤ k → k < q → ¬ Eff C all S k) : Loose C all bs S q j ↔ Loose C all bs S p j :=
  ⟨fun hl e he hE => hl e (by omega) hE, fun hl e he hE => by
    rcases Nat.lt_or_ge e p with h1 | h1
    · exact hl e h1 hE
    · exact absurd hE (h e h1 he)⟩

structure DInv (C : Cfg) (cl : Caller) (base c : Nat) (all : List Oper) (bs : List Nat) (S : Nat → DS) (vs : Nat → AVal) (D : Nat → Prop) (env : List AVal) (X : Heap) : Prop where
  sub : ∀ j, D j → j < all.length
  clo : ∀ i j, D i → waitsB bs i j = true → D j
  env : EnvAt all vs (S 0).env D env
  heap : ∃ (q : Nat) (F : Nat → Option Blk), q ≤ all.length ∧ (∀ e, Eff C all S e → (D e ↔ e < q)) ∧ (∀ l b, F l = some b ↔ ∃ j, l = c + j ∧ D j ∧ Al C cl base c all S j b ∧ Loose C all bs S q j) ∧ Beside F (S q).G X

variable {D : Nat → Prop} {env : List AVal} {X : Heap}

theorem Eff.lt {k : Nat} (h : Eff C all S k) : k < all.length := by obtain ⟨o, ho, _⟩ := h; exact lt_of_get ho
theorem Al.lt {k : Nat} {b : Blk} (h : Al C cl base c all S k b) : k < all.length := by obtain ⟨o, _, _, ho, _⟩ := h; exact lt_of_get ho

/-- the place of one that is not listed is free -/
theorem DInv.free (R : TRun C cl base n c all bs S vs) (hcb : base ≤ c) (h : DInv C cl base c all bs S vs D env X) {j : Nat} (hj : j < all.length) (hD : ¬ D j) {q : Nat} {F : Nat → Option Blk} (hq : q ≤ all.length)
    (hE : ∀ e, Eff C all S e → (D e ↔ e < q)) : hget (S q).G (c + j) = none := by
  cases hg : hget (S q).G (c + j) with
  | none => rfl
  | some b =>
    obtain ⟨e, h1, h2, h3⟩ := (R.inv hcb q hq).slot j hj (by rw [hg]; simp)
    have hDe := (hE e h2).2 h1
    rcases h3 with rfl | h3
    · exact absurd hDe hD
    · exact absurd (h.clo e j hDe h3) hD

theorem DInv.freeX (R : TRun C cl base n c all bs S vs) (hcb : base ≤ c) (h : DInv C cl base c all bs S vs D env X) {j : Nat} (hj : j < all.length) (hD : ¬ D j) : X[c + j]? = some none := by
  obtain ⟨q, F, hq, hE, hF, B⟩ := h.heap
  have hg := h.free R hcb hj hD (F := F) hq hE
  have hlen := (R.inv hcb q hq).len
  have hl : c + j < X.length := by rw [B.len]; omega
  have hx := B.at_ (c + j)
  rw [hg] at hx
  simp only at hx
  have hf : F (c + j) = none := by
    cases hf : F (c + j) with
    | none => rfl
    | some b =>
      obtain ⟨j', h1, h2, _⟩ := (hF _ b).1 hf
      obtain rfl : j = j' := by omega
      exact absurd h2 hD
  rw [hf, hget_eq, List.getElem?_eq_getElem hl] at hx
  rw [List.getElem?_eq_getElem hl]
  simpa using hx

theorem DInv.view (R : TRun C cl base n c all bs S vs) (hcb : base ≤ c) (h : DInv C cl base c all bs S vs D env X) {i : Nat} {o : Oper} (ho : all[i]? = some o) (hD : ¬ D i) (hr : ∀ j, waitsB bs i j = true → D j)
    (hw : wantedA all (S i).env o = true) (hc : clsOf C.P o.op = .rd) (hro : readsOk bs c all.length i (rdLocs (S i).env o.op) (S i).es = true) {l : Nat} (hl : l ∈ rdLocs (S i).env o.op) : hget X l = Mv c S i l := by
  obtain ⟨q, F, hq, hE, hF, B⟩ := h.heap
  have hi := lt_of_get ho
  have Iq := R.inv hcb q hq
  have Ii := R.inv hcb i (by omega)
  unfold readsOk at hro
  simp only [Bool.and_eq_true, List.all_eq_true, Bool.or_eq_true, Bool.not_eq_true', Bool.and_eq_false_iff, decide_eq_false_iff_not] at hro
  obtain ⟨hes, hsl⟩ := hro
  -- effects between here and there leave the row alone
  have hstill : ∀ k, (q ≤ k ∧ k < i ∨ i ≤ k ∧ k < q) → Still C c all S k l := by
    intro k hk o' ho' hw' hc'
    have hEk : Eff C all S k := ⟨o', ho', hw', hc'⟩
    rcases hk with ⟨k1, k2⟩ | ⟨k1, k2⟩
    · have hnD : ¬ D k := fun hd => by have := (hE k hEk).1 hd; omega
      have := hes _ (Ii.es k o' k2 ho' hw' hc')
      simp only at this
      rcases this with h1 | h1
      · exact absurd (hr k h1) hnD
      · split at h1
        · rename_i T hT
          have := (List.all_eq_true.1 h1) l hl
          simp only [Bool.and_eq_true, Bool.not_eq_true', List.contains_eq_mem, decide_eq_false_iff_not, decide_eq_true_eq] at this
          exact ⟨T, hT, this.1, this.2⟩
        · cases h1
    · have hDk : D k := (hE k hEk).2 k2
      have hki : k ≠ i := fun e => by subst e; exact hD hDk
      have f := R.run k o' ho'
      generalize hs' : S (k + 1) = s' at f
      generalize hvk : vs k = vk at f
      cases f with
      | eff hw2 hc2 hr2 he2 hp2 =>
        unfold effOk at hr2
        simp only [Bool.and_eq_true, List.all_eq_true, Bool.or_eq_true] at hr2
        have := hr2.2 _ ((R.inv hcb k (by omega)).rs i o (by omega) ho hw hc)
        simp only at this
        rcases this with h1 | h1
        · exact absurd (h.clo k i hDk h1) hD
        · split at h1
          · rename_i T hT
            have := (List.all_eq_true.1 h1) l hl
            simp only [Bool.and_eq_true, Bool.not_eq_true', List.contains_eq_mem, decide_eq_false_iff_not, decide_eq_true_eq] at this
            exact ⟨T, hT, this.1, this.2⟩
          · cases h1
      | off hw2 _ => rw [hw'] at hw2; cases hw2
      | pure _ hc2 => rw [hc'] at hc2; cases hc2
      | rd _ hc2 => rw [hc'] at hc2; cases hc2
      | al _ hc2 => rw [hc'] at hc2; cases hc2
  by_cases hin : c ≤ l ∧ l < c + all.length
  · -- a place of the region's own
    obtain ⟨j, rfl⟩ : ∃ j, l = c + j := ⟨l - c, by omega⟩
    have hwj : waitsB bs i j = true := by
      rcases hsl (c + j) hl with h1 | h1
      · omega
      · rwa [Nat.add_sub_cancel_left] at h1
    have hDj := hr j hwj
    have hji := orderly_back R.ord hwj
    by_cases hb : ∃ b, Al C cl base c all S j b ∧ Loose C all bs S q j
    · obtain ⟨b, hb1, hb2⟩ := hb
      have hFl := (hF (c + j) b).2 ⟨j, rfl, hDj, hb1, hb2⟩
      have hGl := (B.lt _ _ hFl).2
      have hX : hget X (c + j) = some b := by rw [B.at_, hGl]; exact hFl
      rw [hX]
      rcases Nat.lt_or_ge j q with hjq | hjq
      · have hM : Mv c S q (c + j) = some b := by
          rcases Iq.view (c + j) with ⟨j', b', g1, g2, g3, g4, g5⟩ | ⟨g1, g2⟩
          · obtain rfl : j = j' := by omega
            rw [g5, g2.uniq hb1]
          · exact absurd rfl (g1 j b hjq hb1 hb2)
        rw [← hM]
        exact R.view_between hcb hq (by omega) fun k hk => ⟨fun b' hk' => by rcases hk with h1 | h1 <;> omega, hstill k hk⟩
      · have Ij := R.inv hcb (j + 1) (by omega)
        have hM : Mv c S (j + 1) (c + j) = some b := by
          rcases Ij.view (c + j) with ⟨j', b', g1, g2, g3, g4, g5⟩ | ⟨g1, g2⟩
          · obtain rfl : j = j' := by omega
            rw [g5, g2.uniq hb1]
          · refine absurd rfl (g1 j b (by omega) hb1 fun e he hEe => ?_)
            cases hwe : waitsB bs e j with
            | false => rfl
            | true => have := orderly_back R.ord hwe; omega
        rw [← hM]
        exact R.view_between hcb (by omega) (by omega) fun k hk => ⟨fun b' hk' => by rcases hk with h1 | h1 <;> omega, hstill k (by omega)⟩
    · have hFl : F (c + j) = none := by
        cases hf : F (c + j) with
        | none => rfl
        | some b =>
          obtain ⟨j', g1, g2, g3, g4⟩ := (hF _ b).1 hf
          obtain rfl : j = j' := by omega
          exact absurd ⟨b, g3, g4⟩ hb
      have hX : hget X (c + j) = hget (S q).G (c + j) := by
        rw [B.at_, hFl]; cases hget (S q).G (c + j) <;> rfl
      have hM : Mv c S q (c + j) = hget (S q).G (c + j) := by
        rcases Iq.view (c + j) with ⟨j', b', g1, g2, g3, g4, g5⟩ | ⟨g1, g2⟩
        · obtain rfl : j = j' := by omega
          exact absurd ⟨b', g2, g3⟩ hb
        · exact g2
      rw [hX, ← hM]
      refine R.view_between hcb hq (by omega) fun k hk => ⟨fun b' hk' hkl => ?_, hstill k hk⟩
      obtain rfl : j = k := by omega
      -- some effect has taken it in: it came before
      have hjq : j < q := by
        rcases Nat.lt_or_ge j q with h1 | h1
        · exact h1
        · refine absurd ⟨b', hk', fun e he hEe => ?_⟩ hb
          cases hwe : waitsB bs e j with
          | false => rfl
          | true => have := orderly_back R.ord hwe; omega
      omega
  · have hFl : F l = none := by
      cases hf : F l with
      | none => rfl
      | some b =>
        obtain ⟨j', g1, g2, g3, g4⟩ := (hF _ b).1 hf
        have := h.sub j' g2
        omega
    have hX : hget X l = hget (S q).G l := by
      rw [B.at_, hFl]; cases hget (S q).G l <;> rfl
    have hM : Mv c S q l = hget (S q).G l := by
      rcases Iq.view l with ⟨j', b', g1, g2, g3, g4, g5⟩ | ⟨g1, g2⟩
      · have := g2.lt; omega
      · exact g2
    rw [hX, ← hM]
    exact R.view_between hcb hq (by omega) fun k hk => ⟨fun b' hk' hkl => by have := hk'.lt; omega, hstill k hk⟩
end Go.Abs
end
section
/-
  A region whose order is open: one operation more.
-/
set_option linter.unusedSimpArgs false
set_option linter.unusedVariables false
namespace Go.Abs
open Go

variable {C : Cfg} {P : Program} {cl : Caller} {base n c : Nat} {all : List Oper} {bs : List Nat}
variable {S : Nat → DS} {vs : Nat → AVal} {D : Nat → Prop} {env : List AVal} {X : Heap}

theorem putA_any {e1 e2 e1' : List AVal} {dst : Option Tmp} {v : AVal} (h : putA n e1 dst v = some e1') : ∃ e2', putA n e2 dst v = some e2' := by
  unfold putA at h ⊢
  split at h
  · exact ⟨_, rfl⟩
  · split at h
    · rename_i hd; exact ⟨_, if_pos hd⟩
    · cases h

theorem DInv.agree (R : TRun C cl base n c all bs S vs) (hcb : base ≤ c) (h : DInv C cl base c all bs S vs D env X) {i : Nat} {o : Oper} (ho : all[i]? = some o) (hD : ¬ D i) (hr : ∀ j, waitsB bs i j = true → D j) :
    Agree env (S i).env (looks all o) := by
  intro t ht
  have hi := lt_of_get ho
  refine h.env.agree (R.inv hcb i (by omega)).env fun j q hj hq => ?_
  by_cases hji : j = i
  · subst hji; exact ⟨fun hd => absurd hd hD, fun hlt => by omega⟩
  have hp := orderly_pair R.ord ho hj hji hq (by unfold names; exact List.mem_append_right _ ht)
  rcases Nat.lt_or_ge j i with h1 | h1
  · rw [Nat.max_eq_right (by omega), Nat.min_eq_left (by omega)] at hp
    exact ⟨fun _ => h1, fun _ => hr j hp⟩
  · rw [Nat.max_eq_left (by omega), Nat.min_eq_right (by omega)] at hp
    exact ⟨fun hd => absurd (h.clo j i hd hp) hD, fun hlt => by omega⟩

theorem DInv.put (R : TRun C cl base n c all bs S vs) (h : DInv C cl base c all bs S vs D env X) {i : Nat} {o : Oper} (ho : all[i]? = some o) (hD : ¬ D i) {env' : List AVal} (hp : putA n env o.dst (vs i) = some env') :
    EnvAt all vs (S 0).env (fun j => D j ∨ j = i) env' :=
  h.env.put ho hp fun t ht j o' hj hoj hdj => by
    have hji : j ≠ i := fun e => by subst e; exact hD hj
    have hpr := orderly_pair R.ord ho hoj hji hdj (by unfold names; simp [ht])
    rcases Nat.lt_or_ge j i with h1 | h1
    · exact h1
    · rw [Nat.max_eq_left (by omega), Nat.min_eq_right (by omega)] at hpr
      exact absurd (h.clo j i hj hpr) hD

/-- one that turns nothing -/
theorem DInv.same (R : TRun C cl base n c all bs S vs) (h : DInv C cl base c all bs S vs D env X) {i : Nat} {o : Oper} (ho : all[i]? = some o) (hD : ¬ D i) (hr : ∀ j, waitsB bs i j = true → D j)
    (hne : ¬ Eff C all S i) (hna : ∀ b, ¬ Al C cl base c all S i b) {env' : List AVal} (hp : putA n env o.dst (vs i) = some env') : DInv C cl base c all bs S vs (fun j => D j ∨ j = i) env' X := by
  obtain ⟨q, F, hq, hE, hF, B⟩ := h.heap
  refine ⟨fun j hj => ?_, fun k j hk hw => ?_, h.put R ho hD hp, q, F, hq, fun e he => ?_, fun l b => ?_, B⟩
  · rcases hj with hj | rfl
    · exact h.sub j hj
    · exact lt_of_get ho
  · rcases hk with hk | rfl
    · exact .inl (h.clo k j hk hw)
    · exact .inl (hr j hw)
  · rw [← hE e he]
    exact ⟨fun hd => hd.resolve_right fun e' => by subst e'; exact hne he, .inl⟩
  · rw [hF]
    constructor
    · rintro ⟨j, h1, h2, h3, h4⟩; exact ⟨j, h1, .inl h2, h3, h4⟩
    · rintro ⟨j, h1, h2, h3, h4⟩
      refine ⟨j, h1, h2.resolve_right fun e => by subst e; exact hna b h3, h3, h4⟩

theorem DInv.fill (R : TRun C cl base n c all bs S vs) (hcb : base ≤ c) (h : DInv C cl base c all bs S vs D env X) {i : Nat} {o : Oper} (ho : all[i]? = some o) (hD : ¬ D i) (hr : ∀ j, waitsB bs i j = true → D j)
    (hne : ¬ Eff C all S i) {b : Blk} (ha : Al C cl base c all S i b) {env' : List AVal} (hp : putA n env o.dst (vs i) = some env') : DInv C cl base c all bs S vs (fun j => D j ∨ j = i) env' (X.set (c + i) (some b)) := by
  obtain ⟨q, F, hq, hE, hF, B⟩ := h.heap
  have hi := lt_of_get ho
  have hg := h.free R hcb hi hD (F := F) hq hE
  have hlen := (R.inv hcb q hq).len
  have hlX : c + i < X.length := by rw [B.len]; omega
  have hl : Loose C all bs S q i := fun e he hEe => by
    cases hwe : waitsB bs e i with
    | false => rfl
    | true => exact absurd (h.clo e i ((hE e hEe).2 he) hwe) hD
  refine ⟨fun j hj => ?_, fun k j hk hw => ?_, h.put R ho hD hp, q, fun l => if l = c + i then some b else F l, hq, fun e he => ?_, fun l b' => ?_, ⟨by simp [B.len], fun l => ?_, fun l x hx => ?_⟩⟩
  · rcases hj with hj | rfl
    · exact h.sub j hj
    · exact hi
  · rcases hk with hk | rfl
    · exact .inl (h.clo k j hk hw)
    · exact .inl (hr j hw)
  · rw [← hE e he]
    exact ⟨fun hd => hd.resolve_right fun e' => by subst e'; exact hne he, .inl⟩
  · by_cases hli : l = c + i
    · subst hli
      simp only [if_true, Option.some.injEq]
      constructor
      · rintro rfl; exact ⟨i, rfl, .inr rfl, ha, hl⟩
      · rintro ⟨j, h1, h2, h3, h4⟩
        obtain rfl : i = j := by omega
        exact ha.uniq h3
    · simp only [if_neg hli, hF]
      constructor
      · rintro ⟨j, h1, h2, h3, h4⟩; exact ⟨j, h1, .inl h2, h3, h4⟩
      · rintro ⟨j, h1, h2, h3, h4⟩
        exact ⟨j, h1, h2.resolve_right fun e => by subst e; exact hli h1, h3, h4⟩
  · rw [hget_set _ _ _ _ hlX]
    by_cases hli : l = c + i
    · subst hli; rw [if_pos rfl, hg, if_pos rfl]
    · rw [if_neg hli, if_neg hli]; exact B.at_ l
  · by_cases hli : l = c + i
    · subst hli; exact ⟨by omega, hg⟩
    · rw [if_neg hli] at hx; exact B.lt l x hx

theorem DInv.turn (R : TRun C cl base n c all bs S vs) (hcb : base ≤ c) (h : DInv C cl base c all bs S vs D env X) {i : Nat} {o : Oper} (ho : all[i]? = some o) (hD : ¬ D i) (hr : ∀ j, waitsB bs i j = true → D j)
    (hw : wantedA all (S i).env o = true) (hc : clsOf C.P o.op = .eff) {v : AVal} {G' : Heap}
    (hef : effOk bs i (touchOf C (S i).env (c + i) o.op) (S i).rs (S i).es (S i).G.length = true) (hG' : (S (i + 1)).G = G')
    (he : opA C cl base (some (c + i)) (S i).env (mergeF c (waitsB bs i) (S i).fl (S i).G) o.op = some (v, G')) (hv : v = vs i) :
    ∃ X', opA C cl base (some (c + i)) (S i).env X o.op = some (v, X') ∧ ∀ env', putA n env o.dst (vs i) = some env' → DInv C cl base c all bs S vs (fun j => D j ∨ j = i) env' X' := by
  obtain ⟨q, F, hq, hE, hF, B⟩ := h.heap
  have hi := lt_of_get ho
  have Ii := R.inv hcb i (by omega)
  have hEi : Eff C all S i := ⟨o, ho, hw, hc⟩
  -- the effects before are done, those behind are not
  have hbefore : ∀ e, Eff C all S e → e < i → D e := fun e hEe hlt => by
    obtain ⟨oe, h1, h2, h3⟩ := hEe
    have := Ii.es e oe hlt h1 h2 h3
    unfold effOk at hef
    simp only [Bool.and_eq_true, List.all_eq_true] at hef
    exact hr e (hef.1 _ this)
  have hafter : ∀ e, Eff C all S e → i < e → ¬ D e := fun e hEe hlt hd => by
    have hEe' := hEe
    obtain ⟨oe, h1, h2, h3⟩ := hEe
    have f := R.run e oe h1
    generalize hs' : S (e + 1) = s' at f
    generalize hvk : vs e = vk at f
    cases f with
    | eff hw2 hc2 hr2 he2 hp2 =>
      unfold effOk at hr2
      simp only [Bool.and_eq_true, List.all_eq_true] at hr2
      have := hr2.1 _ ((R.inv hcb e (by have := lt_of_get h1; omega)).es i o hlt ho hw hc)
      exact hD (h.clo e i hd this)
    | off hw2 _ => rw [h2] at hw2; cases hw2
    | pure _ hc2 => rw [h3] at hc2; cases hc2
    | rd _ hc2 => rw [h3] at hc2; cases hc2
    | al _ hc2 => rw [h3] at hc2; cases hc2
  have hqi : q ≤ i := by
    rcases Nat.lt_or_ge i q with h1 | h1
    · exact absurd ((hE i hEi).2 h1) hD
    · exact h1
  have hno : ∀ k, q ≤ k → k < i → ¬ Eff C all S k := fun k h1 h2 hk => by
    have := (hE k hk).1 (hbefore k hk h2); omega
  have hGq : (S i).G = (S q).G := by
    have := R.G_const (k1 := q) (i - q) (by omega) fun k h1 h2 => hno k h1 (by omega)
    rwa [show q + (i - q) = i by omega] at this
  have hLq : ∀ j, Loose C all bs S i j ↔ Loose C all bs S q j := fun j => Loose.between hqi hno
  rw [← hGq] at B
  have hnai : ∀ b, ¬ Al C cl base c all S i b := fun b ⟨o', _, _, h1, h2, h3, _⟩ => by
    rw [ho] at h1; simp at h1; subst h1; rw [hc] at h3; cases h3
  -- the rows beside that are taken in now
  have hmem : ∀ j b, waitsB bs i j = true → ((j, b) ∈ (S i).fl ↔ F (c + j) = some b) := fun j b hwj => by
    rw [Ii.fl, hF]
    constructor
    · rintro ⟨h1, h2, h3⟩; exact ⟨j, rfl, hr j hwj, h2, (hLq j).1 h3⟩
    · rintro ⟨j', h1, h2, h3, h4⟩
      obtain rfl : j = j' := by omega
      exact ⟨orderly_back R.ord hwj, h3, (hLq j).2 h4⟩
  let F' : Nat → Option Blk := fun l => if c ≤ l ∧ waitsB bs i (l - c) = true then none else F l
  have B' : Beside F' (mergeF c (waitsB bs i) (S i).fl (S i).G) X := by
    refine ⟨by rw [B.len, mergeF_length], fun l => ?_, fun l x hx => ?_⟩
    · rcases mergeF_get (c := c) (p := waitsB bs i) Ii.flLen Ii.flUniq l with ⟨j, b, h1, h2, h3, h4⟩ | ⟨h1, h2⟩
      · subst h3
        have hf := (hmem j b h2).1 h1
        rw [h4, B.at_, (B.lt _ _ hf).2]
        exact hf
      · rw [h2, B.at_]
        cases hgl : hget (S i).G l with
        | some b => rfl
        | none =>
          simp only [F']
          split
          · rename_i hh
            cases hf : F l with
            | none => rfl
            | some b =>
              have hl : l = c + (l - c) := by omega
              exact absurd hl (h1 (l - c) b ((hmem _ b hh.2).2 (by rw [← hl]; exact hf)) hh.2)
          · rfl
    · simp only [F'] at hx
      split at hx
      · cases hx
      · rename_i hh
        have := B.lt l x hx
        refine ⟨by rw [mergeF_length]; exact this.1, ?_⟩
        rcases mergeF_get (c := c) (p := waitsB bs i) Ii.flLen Ii.flUniq l with ⟨j, b, h1, h2, h3, h4⟩ | ⟨h1, h2⟩
        · subst h3; exact absurd ⟨by omega, by rwa [Nat.add_sub_cancel_left]⟩ hh
        · rw [h2]; exact this.2
  have hFi : F (c + i) = none := by
    cases hf : F (c + i) with
    | none => rfl
    | some b =>
      obtain ⟨j, h1, h2, _⟩ := (hF _ b).1 hf
      obtain rfl : i = j := by omega
      exact absurd h2 hD
  obtain ⟨X', k1, k2⟩ := opA_frame R.frame B' (fun s hs => by simp at hs; subst hs; simp only [F']; split <;> first | rfl | exact hFi) he
  refine ⟨X', k1, fun env' hp => ⟨fun j hj => ?_, fun k j hk hwk => ?_, h.put R ho hD hp, i + 1, F', by omega, fun e hEe => ?_, fun l b => ?_, by rw [hG']; exact k2⟩⟩
  · rcases hj with hj | rfl
    · exact h.sub j hj
    · exact hi
  · rcases hk with hk | rfl
    · exact .inl (h.clo k j hk hwk)
    · exact .inl (hr j hwk)
  · constructor
    · rintro (hd | rfl)
      · rcases Nat.lt_or_ge i e with h1 | h1
        · exact absurd hd (hafter e hEe h1)
        · omega
      · omega
    · intro hlt
      rcases Nat.lt_or_ge e i with h1 | h1
      · exact .inl (hbefore e hEe h1)
      · exact .inr (by omega)
  · simp only [F']
    constructor
    · intro hx
      split at hx
      · cases hx
      · rename_i hh
        obtain ⟨j, h1, h2, h3, h4⟩ := (hF l b).1 hx
        refine ⟨j, h1, .inl h2, h3, (Loose.succ_eff hEi).2 ⟨(hLq j).2 h4, ?_⟩⟩
        cases hwj : waitsB bs i j with
        | false => rfl
        | true => subst h1; exact absurd ⟨by omega, by rwa [Nat.add_sub_cancel_left]⟩ hh
    · rintro ⟨j, h1, h2, h3, h4⟩
      have h2' : D j := h2.resolve_right fun e => by subst e; exact hnai b h3
      obtain ⟨h5, h6⟩ := (Loose.succ_eff hEi).1 h4
      rw [if_neg (by subst h1; rw [Nat.add_sub_cancel_left, h6]; simp)]
      exact (hF l b).2 ⟨j, h1, h2', h3, (hLq j).1 h5⟩

theorem DInv.step (R : TRun C cl base n c all bs S vs) (hcb : base ≤ c) (h : DInv C cl base c all bs S vs D env X) {i : Nat} {o : Oper} (ho : all[i]? = some o) (hD : ¬ D i) (hr : ∀ j, waitsB bs i j = true → D j) :
    wantedA all env o = wantedA all (S i).env o ∧
    (wantedA all (S i).env o = true → ∃ X', opA C cl base (some (c + i)) env X o.op = some (vs i, X') ∧ ∃ env', putA n env o.dst (vs i) = some env' ∧ DInv C cl base c all bs S vs (fun j => D j ∨ j = i) env' X') ∧
    (wantedA all (S i).env o = false → vs i = .undef ∧ ∃ env', putA n env o.dst (vs i) = some env' ∧ DInv C cl base c all bs S vs (fun j => D j ∨ j = i) env' X) := by
  have hag := h.agree R hcb ho hD hr
  obtain ⟨a1, a2⟩ := looks_agree (C := C) (cl := cl) hag
  have f := R.run i o ho
  have hnot : ∀ (Z : Cls), clsOf C.P o.op = Z → Z ≠ .eff → ¬ Eff C all S i := fun Z hz hne ⟨o', h1, h2, h3⟩ => by
    rw [ho] at h1; simp at h1; subst h1; rw [hz] at h3; exact hne h3
  have hnoal : ∀ (Z : Cls), clsOf C.P o.op = Z → Z ≠ .al → ∀ b, ¬ Al C cl base c all S i b := fun Z hz hne b ⟨o', _, _, h1, h2, h3, _⟩ => by
    rw [ho] at h1; simp at h1; subst h1; rw [hz] at h3; exact hne h3
  generalize hs' : S (i + 1) = s' at f
  generalize hvk : vs i = vk at f
  refine ⟨a1, ?_⟩
  cases f with
  | off hw hp =>
    refine ⟨(fun h1 => by rw [hw] at h1; cases h1), fun _ => ⟨rfl, ?_⟩⟩
    obtain ⟨env', he'⟩ := putA_any (e2 := env) hp
    have hne : ¬ Eff C all S i := fun ⟨o', h1, h2, _⟩ => by rw [ho] at h1; simp at h1; subst h1; rw [hw] at h2; cases h2
    have hna : ∀ b, ¬ Al C cl base c all S i b := fun b ⟨o', _, _, h1, h2, _⟩ => by rw [ho] at h1; simp at h1; subst h1; rw [hw] at h2; cases h2
    exact ⟨env', he', h.same R ho hD hr hne hna (by rw [hvk]; exact he')⟩
  | pure hw hc he hp =>
    refine ⟨fun _ => ?_, fun h1 => by rw [hw] at h1; cases h1⟩
    obtain ⟨env', he'⟩ := putA_any (e2 := env) hp
    exact ⟨X, by rw [a2]; exact (cls_pure hc he).2 _ X, env', he', h.same R ho hD hr (hnot _ hc (by simp)) (hnoal _ hc (by simp)) (by rw [hvk]; exact he')⟩
  | rd hw hc hro he hp =>
    refine ⟨fun _ => ?_, fun h1 => by rw [hw] at h1; cases h1⟩
    obtain ⟨env', he'⟩ := putA_any (e2 := env) hp
    refine ⟨X, ?_, env', he', h.same R ho hD hr (hnot _ hc (by simp)) (hnoal _ hc (by simp)) (by rw [hvk]; exact he')⟩
    rw [a2]
    exact (cls_rd hc he).2 _ X fun l hl => h.view R hcb ho hD hr hw hc hro hl
  | @al _ _ _ b hw hc he hb hp =>
    refine ⟨fun _ => ?_, fun h1 => by rw [hw] at h1; cases h1⟩
    obtain ⟨env', he'⟩ := putA_any (e2 := env) hp
    have hal : Al C cl base c all S i b := ⟨o, _, _, ho, hw, hc, he, hb⟩
    obtain ⟨b', g1, g2, g3⟩ := cls_al hc he
    have hbb : b' = b := by
      have hlt : c + i < (S i).G.length := by
        rcases Nat.lt_or_ge (c + i) (S i).G.length with h' | h'
        · exact h'
        · simp [List.getElem?_eq_none h'] at g2
      rw [g1, hget_set _ _ _ _ hlt, if_pos rfl] at hb
      simpa using hb
    subst hbb
    refine ⟨X.set (c + i) (some b'), ?_, env', he', h.fill R hcb ho hD hr (hnot _ hc (by simp)) hal (by rw [hvk]; exact he')⟩
    rw [a2]
    exact g3 X (h.freeX R hcb (lt_of_get ho) hD)
  | @eff _ _ G' hw hc hef he hp =>
    refine ⟨fun _ => ?_, fun h1 => by rw [hw] at h1; cases h1⟩
    obtain ⟨env', he'⟩ := putA_any (e2 := env) hp
    obtain ⟨X', k1, k2⟩ := h.turn R hcb ho hD hr hw hc hef (G' := G') (by rw [hs']) he hvk.symm
    exact ⟨X', by rw [a2]; exact k1, env', he', k2 env' (by rw [hvk]; exact he')⟩
end Go.Abs
end
section
/-
  A region whose order is open: the model's own.
-/
set_option linter.unusedSimpArgs false
set_option linter.unusedVariables false
namespace Go.Abs
open Go

variable {C : Cfg} {P : Program} {cl : Caller} {base n c : Nat} {all : List Oper} {bs : List Nat}
variable {S : Nat → DS} {vs : Nat → AVal} {D : Nat → Prop} {env : List AVal} {X : Heap}

/-! ### which one waits for which -/
def befF (g : Nat → Nat) (l : List Edge) : Nat := l.foldl (fun s e => if Region.binds .any e then s ||| 2 ^ e.on ||| g e.on else s) 0

theorem befF_bit {g : Nat → Nat} {j : Nat} : ∀ {l : List Edge} {s : Nat}, (l.foldl (fun s e => if Region.binds .any e then s ||| 2 ^ e.on ||| g e.on else s) s).testBit j = true ↔
    s.testBit j = true ∨ ∃ e ∈ l, Region.binds .any e = true ∧ (j = e.on ∨ (g e.on).testBit j = true)
  | [], s => by simp
  | e :: l, s => by
    rw [List.foldl_cons, befF_bit]
    by_cases hb : Region.binds .any e = true
    · rw [if_pos hb]
      simp only [Nat.testBit_or, Bool.or_eq_true, Nat.testBit_two_pow, decide_eq_true_eq, List.mem_cons, exists_eq_or_imp, hb, true_and]
      constructor
      · rintro (((h | h) | h) | h)
        · exact .inl h
        · exact .inr (.inl (.inl h.symm))
        · exact .inr (.inl (.inr h))
        · exact .inr (.inr h)
      · rintro (h | (h | h) | h)
        · exact .inl (.inl (.inl h))
        · exact .inl (.inl (.inr h.symm))
        · exact .inl (.inr h)
        · exact .inr h
    · rw [if_neg hb]
      have hb' : Region.binds .any e = false := by simpa using hb
      simp only [List.mem_cons, exists_eq_or_imp, hb', Bool.false_eq_true, false_and, false_or]

theorem befL_spec : ∀ {os : List Oper} {acc : List Nat}, (∀ i, i < acc.length → (befL os acc).getD i 0 = acc.getD i 0) ∧
    ∀ k o, os[k]? = some o → (befL os acc).getD (acc.length + k) 0 = befF (fun i => if i < acc.length + k then (befL os acc).getD i 0 else 0) o.after.toList
  | [], acc => ⟨fun i _ => rfl, fun k o h => by simp at h⟩
  | o :: os, acc => by
    simp only [befL]
    obtain ⟨h1, h2⟩ := befL_spec (os := os) (acc := acc ++ [o.after.toList.foldl (fun s e => if Region.binds .any e then s ||| 2 ^ e.on ||| acc.getD e.on 0 else s) 0])
    refine ⟨fun i hi => ?_, fun k o' ho => ?_⟩
    · rw [h1 i (by simp; omega)]
      simp [List.getD_eq_getElem?_getD, List.getElem?_append_left hi]
    · cases k with
      | zero =>
        simp at ho; subst ho
        have hold : ∀ i, i < acc.length → (befL os (acc ++ [o.after.toList.foldl (fun s e => if Region.binds .any e then s ||| 2 ^ e.on ||| acc.getD e.on 0 else s) 0])).getD i 0 = acc.getD i 0 := fun i hi => by
          rw [h1 i (by simp; omega)]
          simp [List.getD_eq_getElem?_getD, List.getElem?_append_left hi]
        rw [Nat.add_zero, h1 acc.length (by simp)]
        generalize befL os (acc ++ [o.after.toList.foldl (fun s e => if Region.binds .any e then s ||| 2 ^ e.on ||| acc.getD e.on 0 else s) 0]) = res at hold
        have hx : (acc ++ [o.after.toList.foldl (fun s e => if Region.binds .any e then s ||| 2 ^ e.on ||| acc.getD e.on 0 else s) 0]).getD acc.length 0 = o.after.toList.foldl (fun s e => if Region.binds .any e then s ||| 2 ^ e.on ||| acc.getD e.on 0 else s) 0 := by
          simp [List.getD_eq_getElem?_getD]
        rw [hx]
        unfold befF
        congr 1
        funext s e
        have hg : (if e.on < acc.length then res.getD e.on 0 else 0) = acc.getD e.on 0 := by
          split
          · rename_i he; exact hold _ he
          · rename_i he; rw [List.getD_eq_getElem?_getD, List.getElem?_eq_none (by omega)]; rfl
        show _ = if Region.binds .any e = true then s ||| 2 ^ e.on ||| (if e.on < acc.length then res.getD e.on 0 else 0) else s
        rw [hg]
      | succ k =>
        simp at ho
        have := h2 k o' ho
        simp only [List.length_append, List.length_cons, List.length_nil, Nat.zero_add] at this
        rw [show acc.length + (k + 1) = acc.length + 1 + k by omega]
        exact this

theorem waits_iff {i j : Nat} {o : Oper} (ho : all[i]? = some o) : waitsB (befL all []) i j = true ↔ ∃ e ∈ o.after, Region.binds .any e = true ∧ (j = e.on ∨ (e.on < i ∧ waitsB (befL all []) e.on j = true)) := by
  have := (befL_spec (os := all) (acc := [])).2 i o ho
  simp only [List.length_nil, Nat.zero_add] at this
  unfold waitsB
  rw [this]
  have key : ∀ g : Nat → Nat, (befF g o.after.toList).testBit j = true ↔ ∃ e ∈ o.after.toList, Region.binds .any e = true ∧ (j = e.on ∨ (g e.on).testBit j = true) := fun g => by
    unfold befF
    rw [befF_bit]
    simp
  rw [key]
  simp only [Array.mem_toList_iff]
  constructor
  · rintro ⟨e, h1, h2, h3 | h3⟩
    · exact ⟨e, h1, h2, .inl h3⟩
    · split at h3
      · rename_i hlt; exact ⟨e, h1, h2, .inr ⟨hlt, h3⟩⟩
      · simp at h3
  · rintro ⟨e, h1, h2, h3 | ⟨h3, h4⟩⟩
    · exact ⟨e, h1, h2, .inl h3⟩
    · exact ⟨e, h1, h2, .inr (by rw [if_pos h3]; exact h4)⟩

/-! ### at its end -/
theorem TRun.done (R : TRun C cl base n c all bs S vs) (hcb : base ≤ c) (h : DInv C cl base c all bs S vs D env X) (hD : ∀ j, j < all.length → D j) :
    (∀ t, getX env t = getX (S all.length).env t) ∧ X = mergeF c (fun _ => true) (S all.length).fl (S all.length).G := by
  have I := R.inv hcb all.length (Nat.le_refl _)
  refine ⟨fun t => h.env.agree I.env fun j o ho _ => ⟨fun _ => lt_of_get ho, fun hlt => hD j hlt⟩, ?_⟩
  obtain ⟨q, F, hq, hE, hF, B⟩ := h.heap
  have hno : ∀ k, q ≤ k → k < all.length → ¬ Eff C all S k := fun k h1 h2 hk => by
    have := (hE k hk).1 (hD k h2); omega
  have hGq : (S all.length).G = (S q).G := by
    have := R.G_const (k1 := q) (all.length - q) (by omega) fun k h1 h2 => hno k h1 (by omega)
    rwa [show q + (all.length - q) = all.length by omega] at this
  have hLq : ∀ j, Loose C all bs S all.length j ↔ Loose C all bs S q j := fun j => Loose.between hq hno
  rw [← hGq] at B
  have hget : ∀ l, hget X l = hget (mergeF c (fun _ => true) (S all.length).fl (S all.length).G) l := fun l => by
    rcases I.view l with ⟨j, b, g1, g2, g3, g4, g5⟩ | ⟨g1, g2⟩
    · have hf := (hF l b).2 ⟨j, g4, hD j g1, g2, (hLq j).1 g3⟩
      unfold Mv at g5
      rw [g5, B.at_, (B.lt _ _ hf).2]
      exact hf
    · unfold Mv at g2
      rw [g2, B.at_]
      have hf : F l = none := by
        cases hf : F l with
        | none => rfl
        | some b =>
          obtain ⟨j, h1, h2, h3, h4⟩ := (hF l b).1 hf
          exact absurd h1 (g1 j b (h.sub j h2) h3 ((hLq j).2 h4))
      rw [hf]
      cases Go.Abs.hget (S all.length).G l <;> rfl
  apply List.ext_getElem?
  intro l
  have hl := hget l
  rw [hget_eq, hget_eq] at hl
  rcases Nat.lt_or_ge l X.length with h1 | h1
  · have h2 : l < (mergeF c (fun _ => true) (S all.length).fl (S all.length).G).length := by rw [mergeF_length, ← B.len]; exact h1
    rw [List.getElem?_eq_getElem h1, List.getElem?_eq_getElem h2] at hl ⊢
    simpa using hl
  · rw [List.getElem?_eq_none h1, List.getElem?_eq_none (by rw [mergeF_length, ← B.len]; exact h1)]
end Go.Abs
end
section
/-
  A region whose order is open: the model's own region does what the machine of values does.
-/
set_option linter.unusedSimpArgs false
set_option linter.unusedVariables false
namespace Go.Abs
open Go

variable {ρ : Option Nat} {C : Cfg} {P : Program} {cl : Caller} {base n c : Nat}
variable {S : Nat → DS} {vs : Nat → AVal}

theorem Step.inSlot {m0 m m' : Nat → Option Nat} {Z0 Z Z' : Nat → Prop} {h0 X X' : Heap} {w0 w w' : World} {s : Nat} (a : Step base none noLb m0 Z0 h0 w0 m Z X w) (t : Step base (some s) noLb m Z X w m' Z' X' w') (hs : h0.length ≤ s) :
    Step base none noLb m0 Z0 h0 w0 m' Z' X' w' := by
  have q := (a.anyslot (slot := some s)).trans t
  exact ⟨q.os, q.tape, q.output, q.size, q.mm, q.zz, q.fr, q.shp, q.keep, q.len, q.foot, (fun l hl _ => q.mo l hl (by simp; omega)), q.zc, q.zn⟩

theorem stays_drew {m : Nat → Option Nat} {Z : Nat → Prop} {w : World} (k : Nat) : Stays m Z w m Z { w with drawn := k } := ⟨fun _ _ e => e, fun _ z => z, fun _ _ _ => rfl, fun _ _ e => e⟩

theorem HRel.drew {m : Nat → Option Nat} {Z : Nat → Prop} {h : Heap} {w : World} (r : HRel P m Z h w) (k : Nat) : HRel P m Z h { w with drawn := k } :=
  ⟨fun l blk e => by
    obtain ⟨b, hb, ⟨us, rest, fz, k1, k2, k3, k4⟩, k5⟩ := r.row l blk e
    exact ⟨b, hb, ⟨us, rest, fz, k1, VS.stays (stays_drew k) k2, k3, k4⟩, k5⟩, r.inj, r.apart, r.dom, r.zdom⟩

/-- places for the region's own rows -/
theorem HRel.room {m : Nat → Option Nat} {Z : Nat → Prop} {h : Heap} {w : World} (r : HRel P m Z h w) (k : Nat) : HRel P m Z (h ++ List.replicate k none) w ∧ Step base none noLb m Z h w m Z (h ++ List.replicate k none) w := by
  have hg : ∀ l, hget (h ++ List.replicate k none) l = hget h l := fun l => by
    rw [hget_eq, hget_eq]
    rcases Nat.lt_or_ge l h.length with hl | hl
    · rw [List.getElem?_append_left hl]
    · rw [List.getElem?_append_right hl, List.getElem?_eq_none hl, List.getElem?_replicate]
      split <;> rfl
  refine ⟨⟨fun l blk e => r.row l blk (by rwa [hg] at e), fun l l' blk blk' b e e' => r.inj l l' blk blk' b (by rwa [hg] at e) (by rwa [hg] at e'), fun l blk b e => r.apart l blk b (by rwa [hg] at e),
    fun l b e => ⟨by have := (r.dom l b e).1; simp; omega, (r.dom l b e).2⟩, r.zdom⟩, ?_⟩
  exact ⟨rfl, rfl, rfl, Nat.le_refl _, fun _ _ e => e, fun _ z => z, fun _ _ _ _ => rfl, fun _ _ e => e, fun l _ => hg l, by simp, fun l blk b hl e e' => .inr ⟨l, blk, hl, by rwa [hg] at e, e'⟩, fun _ _ _ => rfl, fun _ _ _ => rfl, fun _ z => .inl z⟩

theorem anyWp {ops : Array Oper} (R : TRun C cl base n c ops.toList (befL ops.toList []) S vs) (hcb : base ≤ c) (hcl : CallOK P cl) (hN : Named P) (hP : C.P = P)
    {m0 : Nat → Option Nat} {Z0 : Nat → Prop} {h0 : Heap} {w0 : World} (hc0 : h0.length = c) {Q : Exit → Act → World → Prop} {ds : List Deferred}
    (hQ : ∀ m Z w env (a : Act), (∀ t, getX env t = getX (S ops.size).env t) → EnvR P m Z w n env a.tmps → a.defers = ds → HRel P m Z (mergeF c (fun _ => true) (S ops.size).fl (S ops.size).G) w →
      Step base none noLb m0 Z0 h0 w0 m Z (mergeF c (fun _ => true) (S ops.size).fl (S ops.size).G) w → Q .normal a w) :
    ∀ (fuel : Nat) (listed : Array Bool) (D : Nat → Prop) (env : List AVal) (X : Heap) (m : Nat → Option Nat) (Z : Nat → Prop) (w : World) (a : Act),
      listed.size = ops.size → (∀ j, listed.getD j false = true ↔ D j) → DInv C cl base c ops.toList (befL ops.toList []) S vs D env X → HRel P m Z X w → EnvR P m Z w n env a.tmps → a.defers = ds →
      (∀ j, j < ops.size → ¬ D j → m (c + j) = none) → Step base none noLb m0 Z0 h0 w0 m Z X w → (∃ U : List Nat, U.length ≤ fuel ∧ ∀ j, j < ops.size → ¬ D j → j ∈ U) → wpAnyIn (Fr ρ) 0 P .any ops Q fuel listed a w := by
  have hsz : ops.toList.length = ops.size := by simp
  -- when nothing is ready, all is done
  have hend : ∀ (listed : Array Bool) (D : Nat → Prop) (env : List AVal) (X : Heap) (m : Nat → Option Nat) (Z : Nat → Prop) (w : World) (a : Act),
      listed.size = ops.size → (∀ j, listed.getD j false = true ↔ D j) → DInv C cl base c ops.toList (befL ops.toList []) S vs D env X → HRel P m Z X w → EnvR P m Z w n env a.tmps → a.defers = ds →
      Step base none noLb m0 Z0 h0 w0 m Z X w → (∀ j, j < ops.size → D j) → Q .normal a w := by
    intro listed D env X m Z w a hls hL I r he hds st hall
    obtain ⟨h1, h2⟩ := R.done hcb I (by rw [hsz]; exact hall)
    rw [hsz] at h1 h2
    subst h2
    exact hQ m Z w env a h1 he hds r st
  have hready : ∀ (listed : Array Bool) (D : Nat → Prop), listed.size = ops.size → (∀ j, listed.getD j false = true ↔ D j) → Region.ready .any ops listed = [] → ∀ j, j < ops.size → D j := by
    intro listed D hls hL hr j
    induction j using Nat.strongRecOn with
    | ind j ih =>
      intro hj
      rcases Classical.em (D j) with h | h
      · exact h
      · exfalso
        have : j ∈ Region.ready .any ops listed := by
          rw [mem_ready]
          obtain ⟨o, ho⟩ : ∃ o, ops[j]? = some o := ⟨ops[j], Array.getElem?_eq_getElem hj⟩
          refine ⟨?_, o, ho, fun e he hb => ?_⟩
          · have hn : ¬ listed.getD j false = true := fun hh => h ((hL j).1 hh)
            rw [Array.getD_eq_getD_getElem?, Array.getElem?_eq_getElem (by omega)] at hn ⊢
            simpa using hn
          · have hw : waitsB (befL ops.toList []) j e.on = true := (waits_iff (by rw [Array.getElem?_toList]; exact ho)).2 ⟨e, he, hb, .inl rfl⟩
            have hlt := orderly_back R.ord hw
            exact (hL _).2 (ih e.on hlt (by omega))
        rw [hr] at this
        cases this
  intro fuel
  induction fuel with
  | zero =>
    intro listed D env X m Z w a hls hL I r he hds hm st hU
    obtain ⟨U, hU1, hU2⟩ := hU
    have hall : ∀ j, j < ops.size → D j := fun j hj => by
      rcases Classical.em (D j) with h | h
      · exact h
      · have h3 := hU2 j hj h
        have h4 : U = [] := List.eq_nil_of_length_eq_zero (by omega)
        rw [h4] at h3
        cases h3
    refine ⟨?_, hend listed D env X m Z w a hls hL I r he hds st hall⟩
    cases hr : Region.ready .any ops listed with
    | nil => rfl
    | cons i rest =>
      have hi : i ∈ Region.ready .any ops listed := by rw [hr]; simp
      obtain ⟨h1, o, ho, _⟩ := mem_ready.1 hi
      have hlt := (Array.getElem?_eq_some_iff.1 ho).1
      have h2 := (hL i).2 (hall i hlt)
      rw [Array.getD_eq_getD_getElem?, Array.getElem?_eq_getElem (by omega)] at h1 h2
      simp at h1 h2
      rw [h1] at h2; cases h2
  | succ fuel ih =>
    intro listed D env X m Z w a hls hL I r he hds hm st hU
    refine ⟨fun hr => hend listed D env X m Z w a hls hL I r he hds st (hready listed D hls hL hr), fun i hi => ?_⟩
    obtain ⟨h1, o, ho, hed⟩ := mem_ready.1 hi
    have hlt := (Array.getElem?_eq_some_iff.1 ho).1
    have hnD : ¬ D i := fun hd => by
      have h2 := (hL i).2 hd
      rw [Array.getD_eq_getD_getElem?, Array.getElem?_eq_getElem (by omega)] at h1 h2
      simp at h1 h2
      rw [h1] at h2; cases h2
    have ho' : ops.toList[i]? = some o := by rw [Array.getElem?_toList]; exact ho
    have hwait : ∀ j, waitsB (befL ops.toList []) i j = true → D j := fun j hw => by
      obtain ⟨e, e1, e2, e3⟩ := (waits_iff ho').1 hw
      have hDe := (hL _).1 (hed e e1 e2)
      rcases e3 with rfl | ⟨_, e4⟩
      · exact hDe
      · exact I.clo _ _ hDe e4
    obtain ⟨s1, s2, s3⟩ := I.step R hcb ho' hnD hwait
    have hL' : ∀ j, (listed.setIfInBounds i true).getD j false = true ↔ (D j ∨ j = i) := fun j => by
      by_cases hji : j = i
      · subst hji
        simp [Array.getD_eq_getD_getElem?, Array.getElem?_setIfInBounds, hls, hlt]
      · rw [getD_set_ne false (Ne.symm hji), hL]
        exact ⟨.inl, fun h => h.resolve_right hji⟩
    have hU' : ∃ U : List Nat, U.length ≤ fuel ∧ ∀ j, j < ops.size → ¬ (D j ∨ j = i) → j ∈ U := by
      obtain ⟨U, hU1, hU2⟩ := hU
      refine ⟨U.erase i, ?_, fun j hj hn => ?_⟩
      · rw [List.length_erase_of_mem (hU2 i hlt hnD)]; omega
      · exact (List.mem_erase_of_ne (fun e => hn (.inr e))).2 (hU2 j hj fun hd => hn (.inl hd))
    have hlen := I.heap
    obtain ⟨q, F, hq, _, _, B⟩ := hlen
    have hXlen : c + ops.toList.length ≤ X.length := by rw [B.len]; exact (R.inv hcb q hq).len
    unfold wpOpIn
    simp only [ho]
    have hw := wanted_eq he ops o
    by_cases hwant : wantedA ops.toList env o = true
    · rw [if_pos (hw.trans hwant)]
      obtain ⟨X', k1, env', k2, k3⟩ := s2 (s1 ▸ hwant)
      refine opA_wp hcl hN hP r he ⟨by omega, fun s hs => by simp at hs; subst hs; exact ⟨hm i hlt hnD, by omega⟩⟩ k1 fun m' Z' w' u hv r' st' => ?_
      refine ih _ _ env' X' m' Z' w' _ (by simp [hls]) hL' k3 r' ((he.stays (st'.stays r)).put k2 hv) ((put_defers _ _ _).trans hds) (fun j hj hn => ?_) (st.inSlot st' (by omega)) hU'
      rw [st'.mo (c + j) (by rw [hsz] at hXlen; omega) (by simp; exact fun e => hn (.inr e.symm))]
      exact hm j hj fun hd => hn (.inl hd)
    · rw [if_neg (by rw [hw]; exact hwant)]
      obtain ⟨k0, env', k2, k3⟩ := s3 (by rw [← s1]; simpa using hwant)
      rw [k0] at k2
      refine ⟨fun _ _ => trivial, ?_⟩
      exact ih _ _ env' X m Z w _ (by simp [hls]) hL' k3 r (he.put k2 V_undef) ((put_defers _ _ _).trans hds) (fun j hj hn => hm j hj fun hd => hn (.inl hd)) st hU'

theorem drawA_wp (hcl : CallOK P cl) (hN : Named P) (hP : C.P = P) (hm : P.follows .mixedOrders = true) (hF : CallFrame cl) (hK : CallKept cl) (hT : CallTouch C cl)
    {ops : Array Oper} {id : Nat} {Q : Exit → Act → World → Prop} {m : Nat → Option Nat} {Z : Nat → Prop} {w : World} {h : Heap} {env : List AVal} {a : Act} {s : St}
    (r : HRel P m Z h w) (he : EnvR P m Z w n env a.tmps) (hb : base ≤ h.length) (e : drawA C cl base n ops.toList (env, h) = some s)
    (hQ : ∀ m' Z' w' (a' : Act), EnvR P m' Z' w' n s.1 a'.tmps → a'.defers = a.defers → HRel P m' Z' s.2 w' → Step base none noLb m Z h w m' Z' s.2 w' → Q .normal a' w') : (Code.region id ops true).wpIn (Fr ρ) 0 P Q a w := by
  unfold drawA at e
  simp only at e
  split at e
  case isFalse => cases e
  rename_i hord
  split at e
  case h_2 => cases e
  rename_i t ht
  simp at e; subst e
  obtain ⟨S, vs, k1, k2, k3⟩ := dsteps_run ht
  rw [Nat.zero_add] at k2
  have hsz : ops.toList.length = ops.size := by simp
  have R : TRun C cl base n h.length ops.toList (befL ops.toList []) S vs := by
    refine ⟨hF, hK, hT, hord, fun k o ho => by have := k3 k o ho; simpa using this, by rw [k1], by rw [k1]; simp, fun j hj => ?_⟩
    rw [k1]
    simp only
    rw [hget_eq, List.getElem?_append_right (by omega), List.getElem?_replicate]
    split <;> rfl
  obtain ⟨r0, st0⟩ := r.room (base := base) ops.toList.length
  refine wpIn_region_any hm ?_
  have hD0 : DInv C cl base h.length ops.toList (befL ops.toList []) S vs (fun _ => False) env (h ++ List.replicate ops.toList.length none) := by
    refine ⟨fun j hj => hj.elim, fun i j hi => hi.elim, ?_, 0, fun _ => none, Nat.zero_le _, fun e he => ⟨fun h => h.elim, fun h => by omega⟩, fun l b => ⟨fun h => (by cases h), fun ⟨j, _, h, _⟩ => h.elim⟩, ?_⟩
    · rw [k1]; exact fun t => .inr ⟨fun j _ h => h.elim, rfl⟩
    · rw [k1]
      exact ⟨rfl, fun l => by cases hget (h ++ List.replicate ops.toList.length none) l <;> rfl, fun l b h => by cases h⟩
  refine anyWp R hb hcl hN hP (m0 := m) (Z0 := Z) (h0 := h) (w0 := w) rfl (ds := a.defers) ?_ ops.size _ (fun _ => False) env _ m Z _ a (by simp) (fun j => ?_) hD0 (r0.drew _) (he.stays (stays_drew _)) rfl (fun j hj _ => ?_) (st0.drew _)
    ⟨List.range ops.size, by simp, fun j hj _ => by simpa using hj⟩
  · intro m' Z' w' env' a' q1 q2 q3 q4 q5
    rw [← hsz, k2] at q1 q4 q5
    exact hQ m' Z' w' a' ⟨q2.1, fun i => by rw [← q1]; exact q2.2 i⟩ q3 q4 q5
  · simp [Array.getD_eq_getD_getElem?, Array.getElem?_replicate]
    split <;> rfl
  · cases hmm : m (h.length + j) with
    | none => rfl
    | some b => have := (r.dom _ _ hmm).1; omega
end Go.Abs
end
