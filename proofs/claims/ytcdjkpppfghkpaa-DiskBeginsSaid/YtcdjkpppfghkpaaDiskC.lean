/-
  The disk: what its operations do, told by what it holds.
-/
import Derived.Test.YtcdjkpppfghkpaaDiskB
set_option linter.unusedVariables false
set_option linter.unusedSimpArgs false
namespace Go.Proofs.Ytcdjkpppfghkpaa
open Go Go.Abs Go.Proofs

variable {base : Nat} {h : Heap} {L : LS} {d : DD} {K : AVal → Heap → LS → Prop}

/-- what a disk holds -/
structure AD where
  left : Int
  gone : Bool
  below : Int
  kept : List UInt8
  q : List (Int × List UInt8)
  n : Nat
def DD.abs (d : DD) : AD := ⟨d.left, d.gone, d.below, d.kept, d.q.map fun x => (x.a, x.b), d.n⟩
def AD.went (a : AD) : AD := { a with gone := a.gone || a.left == 0, left := if -1 > a.left - 1 then -1 else a.left - 1 }
def AD.write (a : AD) (i : Int) (bs : List UInt8) : Int × AD :=
  if ¬ (0 ≤ i ∧ i < a.n) ∨ bs.length ≠ 64 then (1, a) else
  if a.went.gone = true then (11, a.went) else
  if 0 ≤ a.below ∧ a.below ≤ i then (7, a.went) else
  (0, { a.went with q := a.went.q ++ [(i, bs)] })

theorem qcells_len (q : List QE) : (qcells q).length = 2 * q.length := by
  induction q with
  | nil => rfl
  | cons x q ih => simp only [qcells, List.flatMap_cons, List.length_append, List.length_cons, List.length_nil] at ih ⊢; omega
theorem qcells_one (q : List QE) : (qcells q).all AVal.one = true := by
  induction q with
  | nil => rfl
  | cons x q ih => simp only [qcells, List.flatMap_cons, List.all_append] at ih ⊢; rw [ih]; rfl
theorem qcells_snoc (q : List QE) (x : QE) : qcells (q ++ [x]) = qcells q ++ [.int .i64 x.a, .own x.r 0 64 none] := by simp [qcells]

/-- one more write waits -/
theorem DAt.push (hd : DAt h d) {h' : Heap} {i : Int} {r r' : Nat} {bs : List UInt8} (hi : 0 ≤ i ∧ i < d.n) (hb : bs.length = 64) (hq : d.q.length < 1048576) (hr : h.length ≤ r) (hr' : h.length ≤ r') (hne : r ≠ r') (hrow : hget h' r = some (bRow bs true)) (hrow' : hget h' r' = some ⟨qcells (d.q ++ [⟨i, r, bs⟩]), 64, true⟩)
    (hst : hget h' d.l = some (stRow { d with q := d.q ++ [⟨i, r, bs⟩], lq := r' })) (hold : ∀ x, x < h.length → x ≠ d.l → (d.q ≠ [] → x ≠ d.lq) → hget h' x = hget h x) (hlen : h.length ≤ h'.length) :
    DAt h' { d with q := d.q ++ [⟨i, r, bs⟩], lq := r' } ∧ Frame h d h' { d with q := d.q ++ [⟨i, r, bs⟩], lq := r' } := by
  have hl := hd.lt (.inl rfl)
  have hlk := hd.lt (.inr (.inl rfl))
  refine ⟨⟨hst, ?_, fun _ => hrow', fun x hx => ?_, fun x hx => ?_, hd.kl, fun _ => ⟨by simp only; omega, by simp only; omega⟩, fun x hx => ?_, hd.sz, hd.nn, hd.lf, hd.bl, ?_⟩, ⟨hlen, fun x hx ho => hold x hx (fun e => ho (.inl e)) fun hq e => ho (.inr (.inr (.inl ⟨hq, e⟩))), fun x hx => ?_⟩⟩
  · exact (hold _ hlk (Ne.symm hd.kl) fun hq => Ne.symm (hd.ql hq).2).trans hd.kp
  · rcases List.mem_append.1 hx with hx | hx
    · exact (hold _ (hd.lt (.inr (.inr (.inr ⟨x, hx, rfl⟩)))) (hd.er x hx).1 fun _ => (hd.er x hx).2.2).trans (hd.en x hx)
    · simp at hx; subst hx; exact hrow
  · rcases List.mem_append.1 hx with hx | hx
    · exact hd.el x hx
    · simp at hx; subst hx; exact ⟨hb, hi⟩
  · rcases List.mem_append.1 hx with hx | hx
    · have := hd.lt (.inr (.inr (.inr ⟨x, hx, rfl⟩)))
      exact ⟨(hd.er x hx).1, (hd.er x hx).2.1, by simp only; omega⟩
    · simp at hx; subst hx; exact ⟨by simp only; omega, by simp only; omega, hne⟩
  · simp; omega
  · rcases hx with rfl | rfl | ⟨_, rfl⟩ | ⟨e, he, rfl⟩
    · exact .inl (.inl rfl)
    · exact .inl (.inr (.inl rfl))
    · exact .inr hr'
    · rcases List.mem_append.1 he with he | he
      · exact .inl (.inr (.inr (.inr ⟨e, he, rfl⟩)))
      · simp at he; subst he; exact .inr hr

def _root_.Go.Abs.AVal.lenB : AVal → Nat
  | .own _ _ n _ => n
  | .lst _ xs => xs.length
  | _ => 0
theorem Bytes.lenB {bs : List UInt8} {v : AVal} (hb : Bytes h bs v) : v.lenB = bs.length := by
  cases hb with
  | own _ _ _ => rfl
  | lst _ => simp [AVal.lenB]

theorem went_abs (d : DD) : d.went.abs = d.abs.went := rfl

/-- the heap behind a write -/
theorem push_heap {G h' H1 : Heap} (hd : DAt G d) {i : Int} {r s1 s2 N : Nat} {bs : List UInt8} (hi : 0 ≤ i ∧ i < d.n) (hb : bs.length = 64) (hq : d.q.length < 1048576) (hr : G.length + N ≤ r) (hrow : hget h' r = some (bRow bs true)) (hlen : G.length + N ≤ h'.length)
    (hold : ∀ x, x < G.length + N → hget h' x = hget G x) (e1 : H1.length = h'.length) (e2 : ∀ x, x ≠ s1 → (d.q ≠ [] → x ≠ d.lq) → hget H1 x = hget h' x) (g1 : G.length ≤ s1 ∧ s1 < G.length + N) (g2 : G.length ≤ s2 ∧ s2 < G.length + N) (hs : s1 ≠ s2) :
    DAt ((H1.set s2 (some ⟨qcells (d.q ++ [⟨i, r, bs⟩]), 64, true⟩)).set d.l (some (stRow { d with q := d.q ++ [⟨i, r, bs⟩], lq := s2 }))) { d with q := d.q ++ [⟨i, r, bs⟩], lq := s2 } ∧
    Frame G d ((H1.set s2 (some ⟨qcells (d.q ++ [⟨i, r, bs⟩]), 64, true⟩)).set d.l (some (stRow { d with q := d.q ++ [⟨i, r, bs⟩], lq := s2 }))) { d with q := d.q ++ [⟨i, r, bs⟩], lq := s2 } := by
  have hl := hd.lt (.inl rfl)
  have hlq : d.q ≠ [] → d.lq < G.length := fun hq => hd.lt (.inr (.inr (.inl ⟨hq, rfl⟩)))
  refine hd.push hi hb hq (by omega) g2.1 (by omega) ?_ ?_ ?_ ?_ ?_
  · rw [hget_other (by omega), hget_other (by omega), e2 r (by omega) fun hq => by have := hlq hq; omega]
    exact hrow
  · rw [hget_other (by omega), hget_put (by omega)]
  · rw [hget_put (by simp; omega)]
  · intro x hx hxl hxq
    rw [hget_other hxl, hget_other (by omega), e2 x (by omega) hxq, hold x (by omega)]
  · simp; omega

theorem write_ok (hd : DAt h d) {i : Int} {bs : List UInt8} {v : AVal} (hb : Bytes h bs v) (hv : ∀ l off n c, v = .own l off n c → ¬ own d l) (hq : d.q.length < 1048576)
    (hk : ∀ h' d', DAt h' d' → d'.l = d.l → d'.abs = (d.abs.write i bs).2 → Frame h d h' d' → K (.int .i64 (d.abs.write i bs).1) h' L) : VCall CD 0 19 [.ptr (some (d.l, 0)), .int .i64 i, v] h L K := by
  have hbad : (¬ (0 ≤ i ∧ i < d.n) ∨ bs.length ≠ 64) → K (.int .i64 1) h L := fun hc => by
    have e : d.abs.write i bs = (1, d.abs) := by unfold AD.write; rw [if_pos (show ¬ (0 ≤ i ∧ i < d.abs.n) ∨ bs.length ≠ 64 from hc)]
    have := hk h d hd rfl (by rw [e]) .refl
    rwa [e] at this
  refine VCall.full (fn := Try.f19) Try.func19 rfl rfl ?_
  have hb0 := hb
  have hlen : v.lenB = bs.length := hb.lenB
  rcases hb with ⟨g1, g2, g3⟩ | ⟨g4⟩
  all_goals
    (conv => whnf)
    refine has_ok hd i ?_
    (conv => whnf)
    refine Kcond.not (Kcond.dec (fun h0 => ?_) (fun h0 => ?_))
    rotate_left
    · (conv => whnf)
      exact hbad (.inl h0)
    (conv => whnf)
    refine Kcond.neI (fun h1 => ?_) (fun h1 => ?_)
    · (conv => whnf)
      exact hbad (.inr fun hh => h1 (by simp [hh]))
    have h1 : bs.length = 64 := by first | omega | (simp at h1; omega)
    have e : ∀ x, d.abs.write i bs = x ↔ (if d.abs.went.gone = true then (11, d.abs.went) else if 0 ≤ d.below ∧ d.below ≤ i then (7, d.abs.went) else (0, { d.abs.went with q := d.abs.went.q ++ [(i, bs)] })) = x := fun x => by
      unfold AD.write; rw [if_neg (show ¬ (¬ (0 ≤ i ∧ i < d.abs.n) ∨ bs.length ≠ 64) from fun hh => hh.elim (fun h => h h0) fun h => h h1)]; rfl
    (conv => whnf)
    refine goes_ok hd fun q1 q2 => ?_
    (conv => whnf)
    refine Kcond.not (Kcond.not (Kcond.by (fun h2 => ?_) (fun h2 => ?_)))
    · (conv => whnf)
      have e' := (e (11, d.abs.went)).2 (if_pos h2)
      have := hk _ _ q1 rfl (by rw [e']; rfl) q2
      rwa [e'] at this
    (conv => whnf)
    refine VRow.of q1.st ?_
    (conv => whnf)
    by_cases h5 : 0 ≤ d.below ∧ d.below ≤ i
    · refine Kcond.t (decide_eq_true (p := d.went.below ≥ 0) h5.1) ?_
      (conv => whnf)
      refine VRow.of q1.st ?_
      (conv => whnf)
      refine Kcond.t (decide_eq_true (p := i ≥ d.went.below) h5.2) ?_
      (conv => whnf)
      have e' := (e (7, d.abs.went)).2 (by rw [if_neg (by rw [← went_abs]; exact fun hh => by rw [show d.went.abs.gone = d.went.gone from rfl] at hh; rw [hh] at h2; cases h2), if_pos h5])
      have := hk _ _ q1 rfl (by rw [e']; rfl) q2
      rwa [e'] at this
    have e' := (e (0, { d.abs.went with q := d.abs.went.q ++ [(i, bs)] })).2 (by rw [if_neg (by rw [← went_abs]; exact fun hh => by rw [show d.went.abs.gone = d.went.gone from rfl] at hh; rw [hh] at h2; cases h2), if_neg h5])
    rw [e'] at hk
    obtain ⟨G, hG⟩ : ∃ G, G = h.set d.l (some (stRow d.went)) := ⟨_, rfl⟩
    rw [← hG] at q1 q2 ⊢
    have hbG : ∀ v, Bytes h bs v → (∀ l off n c, v = .own l off n c → ¬ own d l) → Bytes G bs v := fun v hb hv => hb.frame fun l off n c e => by
      subst e
      cases hb with
      | own g1 _ _ => exact q2.old _ (hget_lt g1) (hv _ _ _ _ rfl)
    have hbG := hbG _ hb0 hv
    by_cases h3 : 0 ≤ d.below
    all_goals
      first
      | refine Kcond.f (decide_eq_false (p := d.went.below ≥ 0) (by show ¬ d.below ≥ 0; omega)) ?_
      | refine Kcond.t (decide_eq_true (p := d.went.below ≥ 0) (by show d.below ≥ 0; omega)) ?_
        (conv => whnf)
        refine VRow.of q1.st ?_
        (conv => whnf)
        refine Kcond.f (decide_eq_false (p := i ≥ d.went.below) (by show ¬ i ≥ d.below; omega)) ?_
      (conv => whnf)
      refine VIf.of (by decide +kernel) ?_
      (conv => whnf)
      have hlG := q1.lt (.inl rfl)
      refine VIf.of (fun h0 => absurd h0 (by show ¬ G.length ≤ d.l; have : d.went.l < G.length := hlG; have : d.went.l = d.l := rfl; omega)) ?_
      (conv => whnf)
      rcases hqq : d.q with _ | ⟨x0, qs⟩
      · have hst : hget (G ++ List.replicate 14 none) d.l = some ⟨[.int .i64 d.went.left, .bool d.went.gone, .int .i64 d.went.below, .own d.lk 0 d.went.kept.length (some d.went.kept.length), .lst true []], 56, false⟩ := by
          rw [hget_rep]
          have := q1.st
          simp only [stRow, qval, show d.went.q = d.q from rfl, hqq] at this
          exact this
        refine VRow.of hst ?_
        (conv => whnf)
        refine VIf.of (by simp; have : d.went.l < G.length := hlG; have : d.went.l = d.l := rfl; omega) ?_
        (conv => whnf)
        refine clone_ok (hbG.frame fun l off n c _ => hget_rep _ _ _) (by intro hh; subst hh; cases h1) (by omega) fun h' r c1 c2 c3 c4 => ?_
        (conv => whnf)
        have L0 : (G ++ List.replicate 14 none).length = G.length + 14 := by simp
        rw [L0] at c1 c3
        have c5 : ∀ x, x < G.length + 14 → hget h' x = hget G x := fun x hx => (c4 x (by rw [L0]; exact hx)).trans (hget_rep _ _ _)
        have no : ∀ k, k < 14 → hget h' (G.length + k) = none := fun k hk => (c5 _ (by omega)).trans (hget_out (by omega))
        refine VAlloc.at rfl (at_none (by omega) (no 9 (by omega))) ?_
        (conv => whnf)
        refine VRow.of (hget_put (by omega)) ?_
        (conv => whnf)
        refine VB.append (et := 64) (size := 2) (nn := 1) (z := [.int .i64 0, .lst true []]) (new := [.int .i64 i, .own r 0 bs.length none]) rfl rfl rfl rfl rfl rfl ?_ (appendV_nil (b := 32) (size := 2) rfl rfl (by omega) rfl rfl (by omega) ?_)
        · simp only [srcCells]
          rw [hget_put (by omega)]
          rfl
        refine VAlloc.at rfl (at_none (by simp; omega) ?_) ?_
        · rw [hget_other (by omega)]; exact no 10 (by omega)
        (conv => whnf)
        have hlG' : d.l < G.length := hlG
        have eq1 : qcells (d.went.q ++ [⟨i, r, bs⟩]) = [.int .i64 i, .own r 0 bs.length none] := by simp [qcells, show d.went.q = d.q from rfl, hqq, h1]
        obtain ⟨k1, k2⟩ := push_heap (h' := h') (N := 14) (s1 := G.length + 9) (s2 := G.length + 10) (H1 := h'.set (G.length + 9) (some ⟨[.int .i64 i, .own r 0 bs.length none], 64, false⟩)) q1 (i := i) h0 h1 hq c1 c2 c3 c5 (by simp) (fun x hx _ => hget_other hx) ⟨by omega, by omega⟩ ⟨by omega, by omega⟩ (by omega)
        rw [eq1] at k1 k2
        refine VWrite.to (b' := stRow { d.went with q := d.went.q ++ [⟨i, r, bs⟩], lq := G.length + 10 }) (by rw [hget_other (by omega), hget_other (by omega), c5 _ (by omega), ← hget_rep G 14]; exact hst) (Nat.zero_le _) rfl rfl ?_ ?_
        · simp [stRow, splice, qval, show d.went.q = d.q from rfl, hqq]
          rfl
        (conv => whnf)
        refine hk _ _ k1 rfl ?_ (q2.trans k2)
        simp [DD.abs, AD.went, DD.went]
      · have hst : hget (G ++ List.replicate 14 none) d.l = some ⟨[.int .i64 d.went.left, .bool d.went.gone, .int .i64 d.went.below, .own d.lk 0 d.went.kept.length (some d.went.kept.length), .own d.lq 0 d.q.length none], 56, false⟩ := by
          rw [hget_rep]
          have := q1.st
          simp only [stRow, qval, show d.went.q = d.q from rfl, hqq] at this ⊢
          exact this
        refine VRow.of hst ?_
        (conv => whnf)
        refine VIf.of (by simp; have : d.went.l < G.length := hlG; have : d.went.l = d.l := rfl; omega) ?_
        (conv => whnf)
        refine clone_ok (hbG.frame fun l off n c _ => hget_rep _ _ _) (by intro hh; subst hh; cases h1) (by omega) fun h' r c1 c2 c3 c4 => ?_
        (conv => whnf)
        have L0 : (G ++ List.replicate 14 none).length = G.length + 14 := by simp
        rw [L0] at c1 c3
        have c5 : ∀ x, x < G.length + 14 → hget h' x = hget G x := fun x hx => (c4 x (by rw [L0]; exact hx)).trans (hget_rep _ _ _)
        have no : ∀ k, k < 14 → hget h' (G.length + k) = none := fun k hk => (c5 _ (by omega)).trans (hget_out (by omega))
        have hqn : d.q ≠ [] := by rw [hqq]; simp
        have hlq : d.lq < G.length := q1.lt (.inr (.inr (.inl ⟨hqn, rfl⟩)))
        have hlql : d.lq ≠ d.l := (q1.ql hqn).1
        refine VAlloc.at rfl (at_none (by omega) (no 9 (by omega))) ?_
        (conv => whnf)
        refine VRow.of (hget_put (by omega)) ?_
        (conv => whnf)
        refine VB.append (et := 64) (size := 2) (nn := 1) (z := [.int .i64 0, .lst true []]) (new := [.int .i64 i, .own r 0 bs.length none]) rfl rfl rfl rfl rfl rfl ?_ (appendV_more (b := 32) (size := 2) (blk := ⟨qcells d.q, 64, true⟩) rfl rfl (by omega) (by omega) rfl rfl ?_ (Nat.zero_le _) (by rw [qcells_len]; omega) rfl (by omega) ?_)
        · simp only [srcCells]
          rw [hget_put (by omega)]
          rfl
        · rw [hget_other (by omega), c5 _ (by omega)]
          exact q1.qu hqn
        refine VAlloc.at (by simp only [List.all_append, qcells_one]; rfl) (at_none (by simp; omega) ?_) ?_
        · rw [hget_other (by omega), hget_other (by omega)]; exact no 10 (by omega)
        (conv => whnf)
        have hlG' : d.l < G.length := hlG
        have eq1 : qcells (d.went.q ++ [⟨i, r, bs⟩]) = qcells d.q ++ [.int .i64 i, .own r 0 bs.length none] := by rw [qcells_snoc, h1]; rfl
        obtain ⟨k1, k2⟩ := push_heap (h' := h') (N := 14) (s1 := G.length + 9) (s2 := G.length + 10) (H1 := (h'.set (G.length + 9) (some ⟨[.int .i64 i, .own r 0 bs.length none], 64, false⟩)).set d.lq none) q1 (i := i) h0 h1 hq c1 c2 c3 c5 (by simp) (fun x hx hx' => by rw [hget_other (show x ≠ d.lq from hx' hqn), hget_other hx]) ⟨by omega, by omega⟩ ⟨by omega, by omega⟩ (by omega)
        rw [eq1] at k1 k2
        refine VWrite.to (b' := stRow { d.went with q := d.went.q ++ [⟨i, r, bs⟩], lq := G.length + 10 }) (by rw [hget_other (by omega), hget_other (by omega), hget_other (by omega), c5 _ (by omega), ← hget_rep G 14]; exact hst) (Nat.zero_le _) rfl rfl ?_ ?_
        · simp [stRow, splice, qval, show d.went.q = d.q from rfl, hqq]
          rfl
        (conv => whnf)
        refine hk _ _ k1 rfl ?_ (q2.trans k2)
        simp [DD.abs, AD.went, DD.went]
end Go.Proofs.Ytcdjkpppfghkpaa
