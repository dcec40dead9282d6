/-
  The document's disk: what its operations do, told by what it holds.
-/
import Derived.Test.YtcdjkpppfghkpaaDiskR
set_option linter.unusedVariables false
set_option linter.unusedSimpArgs false
namespace Go.Proofs.Ytcdjkpppfghkpaa
open Go Go.Abs Go.Proofs

variable {base : Nat} {h : Heap} {L : LS} {r : RD} {K : AVal → Heap → LS → Prop}

theorem rcells_len (q : List (Int × List UInt8)) : (rcells q).length = 2 * q.length := by
  induction q with
  | nil => rfl
  | cons x q ih => simp only [rcells, List.flatMap_cons, List.length_append, List.length_cons, List.length_nil] at ih ⊢; omega
theorem rcells_one (q : List (Int × List UInt8)) : (rcells q).all AVal.one = true := by
  induction q with
  | nil => rfl
  | cons x q ih => simp only [rcells, List.flatMap_cons, List.all_append] at ih ⊢; rw [ih]; rfl
theorem rcells_snoc (q : List (Int × List UInt8)) (x : Int × List UInt8) : rcells (q ++ [x]) = rcells q ++ [.int .i64 x.1, .str x.2] := by simp [rcells]
theorem rcells_at {q : List (Int × List UInt8)} {k : Nat} {w : Int × List UInt8} (hw : q[k]? = some w) : (rcells q).drop (k * 2) = .int .i64 w.1 :: .str w.2 :: (rcells q).drop (k * 2 + 2) := by
  induction q generalizing k with
  | nil => simp at hw
  | cons x q ih =>
    have e : rcells (x :: q) = .int .i64 x.1 :: .str x.2 :: rcells q := by simp [rcells]
    cases k with
    | zero => simp at hw; subst hw; rw [e]; rfl
    | succ k =>
      simp at hw
      rw [e, show (k + 1) * 2 = (k * 2 + 1) + 1 by omega]
      simp only [List.drop_succ_cons]
      exact ih hw

def seenS (s : List UInt8) (q : List (Int × List UInt8)) (i : Int) : List UInt8 := q.foldl (fun s x => if x.1 = i then x.2 else s) s
theorem seenS_snoc (s : List UInt8) (q : List (Int × List UInt8)) (x : Int × List UInt8) (i : Int) : seenS s (q ++ [x]) i = if x.1 = i then x.2 else seenS s q i := by simp [seenS]
theorem seenS_find (s : List UInt8) (q : List (Int × List UInt8)) (i : Int) : seenS s q i = match q.reverse.find? fun x => x.1 == i with | some x => x.2 | none => s := by
  obtain ⟨p, rfl⟩ : ∃ p, q = p.reverse := ⟨q.reverse, by simp⟩
  induction p with
  | nil => rfl
  | cons x p ih =>
    rw [List.reverse_cons, seenS_snoc, ih]
    simp only [List.reverse_append, List.reverse_cons, List.reverse_nil, List.nil_append, List.singleton_append, List.find?_cons]
    by_cases h : x.1 = i
    · simp [h]
    · have : (x.1 == i) = false := by simpa using h
      simp [h, this]

theorem RAt.qrow (hd : RAt h r) {k : Nat} {w : Int × List UInt8} (hw : r.q[k]? = some w) : rqv r = .own r.lq 0 r.q.length none ∧ hget h r.lq = some ⟨rcells r.q, 71, true⟩ := by
  rcases hqq : r.q with _ | ⟨x, q⟩
  · rw [hqq] at hw; simp at hw
  · refine ⟨by simp [rqv, hqq], ?_⟩
    rw [← hqq]
    exact hd.qu (by rw [hqq]; simp)

theorem rqv_len (r : RD) : (∃ n, rqv r = .own r.lq 0 n none ∧ n = r.q.length) ∨ (rqv r = .lst true [] ∧ r.q = []) := by
  unfold rqv
  rcases hqq : r.q with _ | ⟨x, q⟩
  · exact .inr ⟨rfl, rfl⟩
  · exact .inl ⟨_, rfl, rfl⟩

theorem seen_ok (hd : RAt h r) {i : Int} {s : List UInt8} (h0 : 0 ≤ i) (hs : r.secs[i.toNat]? = some s) (hk : K (.str (seenS s r.q i)) h L) : VCall CD base 36 [.ptr (some (r.l, 0)), .int .i64 i] h L K := by
  refine VCall.grow (fn := Try.f36) Try.func36 rfl rfl ?_
  have hlt := (List.getElem?_eq_some_iff.1 hs).1
  have hqb := hd.qb
  (conv => whnf)
  refine VRow.of hd.st ?_
  (conv => whnf)
  refine VIf.of ⟨h0, by omega⟩ ?_
  (conv => whnf)
  refine VRow.of hd.sc ?_
  refine Kopt.of (loadAV_one (r := (r.secs.map AVal.str).drop (0 + i.toNat * 1 + 1)) (v := .str s) rfl ?_) ?_
  · simp only [sRow, Nat.zero_add, Nat.mul_one]
    rw [List.drop_eq_getElem_cons (by simpa using hlt)]
    congr 1
    rw [List.getElem?_eq_getElem hlt] at hs
    simp at hs
    simp [hs]
  (conv => whnf)
  refine VLoop.still (fun k e => ∃ e0 m, m + k = r.q.length ∧ e = put (put (put (put e0 0 (.ptr (some (r.l, 0)))) 1 (.int .i64 i)) 5 (.str (seenS s (r.q.take m) i))) 6 (.int .i64 m)) ?_ (k := r.q.length) ⟨_, 0, by omega, put_eq4 rfl rfl rfl rfl⟩
  rintro k e ⟨e0, m, hm, rfl⟩
  (conv => whnf)
  refine VRow.of hd.st ?_
  rcases rqv_len r with ⟨n, hv, hn⟩ | ⟨hv, hn⟩
  · unfold rRow
    rw [hv]
    (conv => whnf)
    refine Kcond.dec (fun hc => ?_) (fun hc => ?_)
    · obtain ⟨w, hw⟩ : ∃ w, r.q[m]? = some w := ⟨_, List.getElem?_eq_getElem (by omega)⟩
      have hqr := (hd.qrow hw).2
      have htk : r.q.take (m + 1) = r.q.take m ++ [w] := by
        rw [List.take_add_one, hw]; rfl
      (conv => whnf)
      refine VRow.of hd.st ?_
      unfold rRow
      rw [hv]
      (conv => whnf)
      refine VIf.of ⟨by omega, by omega⟩ ?_
      (conv => whnf)
      refine VRow.of hqr ?_
      refine Kopt.of (loadAV_one (v := .int .i64 w.1) (r := .str w.2 :: (rcells r.q).drop (m * 2 + 2)) rfl (by simpa using rcells_at hw)) ?_
      (conv => whnf)
      refine Kcond.eqI (fun he => ?_) (fun he => ?_)
      · (conv => whnf)
        refine VRow.of hd.st ?_
        unfold rRow
        rw [hv]
        (conv => whnf)
        refine VIf.of ⟨by omega, by omega⟩ ?_
        (conv => whnf)
        refine VRow.of hqr ?_
        refine Kopt.of (loadAV_one (v := .str w.2) (r := (rcells r.q).drop (m * 2 + 2)) rfl (by
          have := congrArg (List.drop 1) (rcells_at hw)
          rw [List.drop_drop] at this
          simpa using this)) ?_
        (conv => whnf)
        refine Kwrap.fit (by omega) ?_
        (conv => whnf)
        refine ⟨rfl, rfl, k - 1, by omega, _, m + 1, by omega, put_eq4 rfl rfl ?_ rfl⟩
        rw [htk, seenS_snoc, if_pos he]
        rfl
      · (conv => whnf)
        refine Kwrap.fit (by omega) ?_
        (conv => whnf)
        refine ⟨rfl, rfl, k - 1, by omega, _, m + 1, by omega, put_eq4 rfl rfl ?_ rfl⟩
        rw [htk, seenS_snoc, if_neg he]
        rfl
    · (conv => whnf)
      have : r.q.take m = r.q := List.take_of_length_le (by omega)
      rw [this]
      exact hk
  · unfold rRow
    rw [hv]
    (conv => whnf)
    rw [hn] at hk ⊢
    simpa using hk

theorem rread_ok (hd : RAt h r) (i : Int) (hk : K (.tup [.str (if 0 ≤ i ∧ i < r.secs.length then if r.dark then [] else r.abs.read i else []), .int .i64 (if 0 ≤ i ∧ i < r.secs.length then if r.dark then 11 else 0 else 1)]) h L) : VCall CD base 26 [.ptr (some (r.l, 0)), .int .i64 i] h L K := by
  refine VCall.grow (fn := Try.f26) Try.func26 rfl rfl ?_
  (conv => whnf)
  refine Kcond.dec (fun h0 => ?_) (fun h0 => ?_)
  · (conv => whnf)
    rw [if_neg (by omega), if_neg (by omega)] at hk
    exact hk
  (conv => whnf)
  refine VRow.of hd.st ?_
  (conv => whnf)
  refine Kcond.dec (fun h1 => ?_) (fun h1 => ?_)
  · (conv => whnf)
    rw [if_neg (by omega), if_neg (by omega)] at hk
    exact hk
  have hin : 0 ≤ i ∧ i < r.secs.length := by omega
  rw [if_pos hin, if_pos hin] at hk
  (conv => whnf)
  refine VRow.of hd.st ?_
  (conv => whnf)
  refine Kcond.by (fun h2 => ?_) (fun h2 => ?_)
  · (conv => whnf)
    rw [h2] at hk
    exact hk
  · (conv => whnf)
    rw [h2] at hk
    obtain ⟨s, hs⟩ : ∃ s, r.secs[i.toNat]? = some s := ⟨_, List.getElem?_eq_getElem (by omega)⟩
    refine seen_ok hd hin.1 hs ?_
    (conv => whnf)
    have e : r.abs.read i = seenS s r.q i := by
      rw [seenS_find, AD.read]
      simp only [RD.abs, flatten_sector hd.s64 hs]
      rfl
    simp only [Bool.false_eq_true, if_false, e] at hk
    exact hk

theorem rpush {G H1 : Heap} (hd : RAt G r) {i : Int} {s2 : Nat} {bs : List UInt8} (hi : 0 ≤ i ∧ i < r.secs.length) (hb : bs.length = 64) (hq : r.q.length < 1048576) (hold : ∀ x, x < G.length → hget H1 x = hget G x) (hl : G.length ≤ s2 ∧ s2 < H1.length) :
    RAt ((H1.set s2 (some ⟨rcells (r.q ++ [(i, bs)]), 71, true⟩)).set r.l (some (rRow { r with q := r.q ++ [(i, bs)], lq := s2 }))) { r with q := r.q ++ [(i, bs)], lq := s2 } ∧
    RFrame G r ((H1.set s2 (some ⟨rcells (r.q ++ [(i, bs)]), 71, true⟩)).set r.l (some (rRow { r with q := r.q ++ [(i, bs)], lq := s2 }))) { r with q := r.q ++ [(i, bs)], lq := s2 } := by
  have h1 := hd.lt (.inl rfl)
  have h2 := hd.lt (.inr (.inl rfl))
  have h3 := hd.sl
  refine ⟨⟨?_, ?_, fun _ => ?_, hd.sl, fun _ => ⟨by simp only; omega, by simp only; omega⟩, hd.s64, fun x hx => ?_, hd.nn, hd.tr, hd.cp, by simp; omega⟩, ⟨by simp; omega, fun x hx ho => ?_, fun x hx => ?_⟩⟩
  · exact hget_put (by simp; omega)
  · show hget _ r.ls = _
    rw [hget_other (by omega), hget_other (by omega), hold _ h2]
    exact hd.sc
  · show hget _ s2 = _
    rw [hget_other (by omega), hget_put (by omega)]
  · rcases List.mem_append.1 hx with hx | hx
    · exact hd.q64 x hx
    · simp at hx; subst hx; exact ⟨hb, hi⟩
  · rw [hget_other (fun e => ho (.inl e)), hget_other (by omega), hold x hx]
  · rcases hx with rfl | rfl | ⟨_, rfl⟩
    · exact .inl (.inl rfl)
    · exact .inl (.inr (.inl rfl))
    · exact .inr hl.1

theorem Bytes.ownG {bs : List UInt8} {l off n : Nat} {cap : Option Nat} (hb : Bytes h bs (.own l off n cap)) : ∃ b, hget h l = some b ∧ off + n ≤ b.cells.length ∧ (b.cells.drop off).take n = bs.map ofByte := by
  cases hb with
  | own h1 h2 h3 => exact ⟨_, h1, h2, h3⟩

theorem rwrite_ok (hd : RAt h r) {i : Int} {bs : List UInt8} {v : AVal} (hb : Bytes h bs v) (hv : ∀ l off n c, v = .own l off n c → ¬ ownR r l) (hq : r.q.length < 1048576)
    (hk : ∀ h' r', RAt h' r' → r'.l = r.l → r'.abs = (r.abs.write i bs).2 → RFrame h r h' r' → K (.int .i64 (r.abs.write i bs).1) h' L) : VCall CD 0 27 [.ptr (some (r.l, 0)), .int .i64 i, v] h L K := by
  have hbad : (¬ (0 ≤ i ∧ i < r.secs.length) ∨ bs.length ≠ 64) → K (.int .i64 1) h L := fun hc => by
    have e : r.abs.write i bs = (1, r.abs) := by unfold AD.write; rw [if_pos (show ¬ (0 ≤ i ∧ i < r.abs.n) ∨ bs.length ≠ 64 from hc)]
    have := hk h r hd rfl (by rw [e]) .refl
    rwa [e] at this
  refine VCall.full (fn := Try.f27) Try.func27 rfl rfl ?_
  have hb0 := hb
  cases hb with
  | own g1 g2 g3 =>
    (conv => whnf)
    refine Kcond.dec (fun h0 => ?_) (fun h0 => ?_)
    · (conv => whnf)
      exact hbad (.inl (by omega))
    (conv => whnf)
    refine VRow.of hd.st ?_
    (conv => whnf)
    refine Kcond.dec (fun h1 => ?_) (fun h1 => ?_)
    · (conv => whnf)
      exact hbad (.inl (by omega))
    have hin : 0 ≤ i ∧ i < r.secs.length := by omega
    (conv => whnf)
    refine Kcond.neI (fun h2 => ?_) (fun h2 => ?_)
    · (conv => whnf)
      exact hbad (.inr fun hh => h2 (by simp [hh]))
    have h2 : bs.length = 64 := by first | omega | (simp at h2; omega)
    have e : ∀ x, r.abs.write i bs = x ↔ (if r.abs.went.gone = true then (11, r.abs.went) else if 0 ≤ r.cap ∧ r.cap ≤ i then (7, r.abs.went) else (0, { r.abs.went with q := r.abs.went.q ++ [(i, bs)] })) = x := fun x => by
      unfold AD.write; rw [if_neg (show ¬ (¬ (0 ≤ i ∧ i < r.abs.n) ∨ bs.length ≠ 64) from fun hh => hh.elim (fun h => h hin) fun h => h h2)]; rfl
    (conv => whnf)
    refine power_ok hd fun q1 q2 => ?_
    (conv => whnf)
    refine Kcond.not (Kcond.not (Kcond.by (fun h3 => ?_) (fun h3 => ?_)))
    · (conv => whnf)
      have e' := (e (11, r.abs.went)).2 (if_pos h3)
      have := hk _ _ q1 rfl (by rw [e']; rfl) q2
      rwa [e'] at this
    have hng : ¬ r.abs.went.gone = true := by rw [← rwent_abs]; intro hh; rw [show r.went.abs.gone = r.went.dark from rfl] at hh; rw [hh] at h3; cases h3
    (conv => whnf)
    refine VRow.of q1.st ?_
    (conv => whnf)
    by_cases h5 : 0 ≤ r.cap ∧ r.cap ≤ i
    · refine Kcond.t (decide_eq_true (p := r.went.cap ≥ 0) h5.1) ?_
      (conv => whnf)
      refine VRow.of q1.st ?_
      (conv => whnf)
      refine Kcond.t (decide_eq_true (p := i ≥ r.went.cap) h5.2) ?_
      (conv => whnf)
      have e' := (e (7, r.abs.went)).2 (by rw [if_neg hng, if_pos h5])
      have := hk _ _ q1 rfl (by rw [e']; rfl) q2
      rwa [e'] at this
    have e' := (e (0, { r.abs.went with q := r.abs.went.q ++ [(i, bs)] })).2 (by rw [if_neg hng, if_neg h5])
    rw [e'] at hk
    obtain ⟨G, hG⟩ : ∃ G, G = h.set r.l (some (rRow r.went)) := ⟨_, rfl⟩
    rw [← hG] at q1 q2 ⊢
    have hbG : ∀ v, Bytes h bs v → (∀ l off n c, v = .own l off n c → ¬ ownR r l) → Bytes G bs v := fun v hb hv => hb.frame fun l off n c e => by
      subst e
      cases hb with
      | own g1 _ _ => exact q2.old _ (hget_lt g1) (hv _ _ _ _ rfl)
    have hbG := hbG _ hb0 hv
    by_cases h6 : 0 ≤ r.cap
    all_goals
      first
      | refine Kcond.f (decide_eq_false (p := r.went.cap ≥ 0) (by show ¬ r.cap ≥ 0; omega)) ?_
      | refine Kcond.t (decide_eq_true (p := r.went.cap ≥ 0) (by show r.cap ≥ 0; omega)) ?_
        (conv => whnf)
        refine VRow.of q1.st ?_
        (conv => whnf)
        refine Kcond.f (decide_eq_false (p := i ≥ r.went.cap) (by show ¬ i ≥ r.cap; omega)) ?_
      (conv => whnf)
      refine VIf.of (by decide +kernel) ?_
      (conv => whnf)
      have hlG : r.l < G.length := q1.lt (.inl rfl)
      refine VAlloc.at rfl (rep_at _ _ _ (by omega)) ?_
      (conv => whnf)
      refine VRow.of (hget_put (by simp)) ?_
      (conv => whnf)
      refine VIf.of (fun h0 => absurd h0 (by omega)) ?_
      (conv => whnf)
      have hst := q1.st
      rcases hqq : r.q with _ | ⟨x0, qs⟩
      · have hv : rqv r.went = .lst true [] := by simp [rqv, show r.went.q = r.q from rfl, hqq]
        unfold rRow at hst
        rw [hv] at hst
        refine VRow.of ((hget_other (by omega)).trans ((hget_rep _ _ _).trans hst)) ?_
        (conv => whnf)
        refine VB.append (et := 71) (size := 2) (nn := 0) (z := [.int .i64 0, .str []]) (new := []) rfl rfl rfl rfl rfl rfl rfl ⟨_, _, appendA_zero rfl rfl (.inl ⟨_, _, _, _, rfl⟩), ?_⟩
        (conv => whnf)
        first
        | obtain ⟨gb, gb1, gb2, gb3⟩ := hbG.ownG
          have hbl := hget_lt gb1
          refine VIf.of (by simp; omega) ?_
          (conv => whnf)
          refine VIf.of (by omega) ?_
          (conv => whnf)
          refine VIf.of (by omega) ?_
          (conv => whnf)
          refine VIf.of (fun h0 => absurd h0 (by omega)) ?_
          (conv => whnf)
          refine VRow.of (b := gb) (by first | rw [hget_other (by omega), hget_rep, gb1] | rw [hget_other (by omega), hget_other (by omega), hget_rep, gb1]) ?_
          (conv => whnf)
          refine VIf.of gb2 ?_
          (conv => whnf)
          refine VBytes.of gb3 ?_
        | refine VIf.of (by simp) ?_
          (conv => whnf)
          refine VBytes.of (flatten_one _) ?_
        (conv => whnf)
        refine VAlloc.at rfl (at_none (by simp) (by rw [hget_other (by omega), hget_rep, hget_out (by omega)])) ?_
        (conv => whnf)
        refine VRow.of (hget_put (by simp)) ?_
        (conv => whnf)
        refine VB.append (et := 71) (size := 2) (nn := 1) (z := [.int .i64 0, .str []]) (new := [.int .i64 i, .str bs]) rfl rfl rfl rfl rfl rfl ?_ (appendV_grow (b := 24) (size := 2) (blk := ⟨[], 71, false⟩) rfl rfl (by omega) rfl rfl ((hget_other (by omega)).trans (hget_put (by simp))) (by omega) (by simp) (by omega) ?_)
        · simp only [srcCells]
          rw [hget_put (by simp)]
          rfl
        refine VAlloc.at rfl (at_none (by simp) (by rw [hget_other (by omega), hget_other (by omega), hget_rep, hget_out (by omega)])) ?_
        (conv => whnf)
        have eq1 : rcells (r.went.q ++ [(i, bs)]) = [.int .i64 i, .str bs] := by simp [rcells, show r.went.q = r.q from rfl, hqq]
        obtain ⟨k1, k2⟩ := rpush (H1 := (((G ++ List.replicate 16 none).set (G.length + 1) (some ⟨[], 71, false⟩)).set (G.length + 11) (some ⟨[.int .i64 i, .str bs], 71, false⟩))) (s2 := G.length + 12) q1 hin h2 hq (fun x hx => by rw [hget_other (by omega), hget_other (by omega), hget_rep]) ⟨by omega, by simp⟩
        rw [eq1] at k1 k2
        refine VWrite.to (b' := rRow { r.went with q := r.went.q ++ [(i, bs)], lq := G.length + 12 }) (by rw [hget_other (by omega), hget_other (by omega), hget_other (by omega), hget_rep]; exact hst) (Nat.zero_le _) rfl rfl ?_ ?_
        · simp [rRow, splice, rqv, show r.went.q = r.q from rfl, hqq]
        (conv => whnf)
        refine hk _ _ k1 rfl ?_ (q2.trans k2)
        simp [RD.abs, AD.went, RD.went]
      · have hv : rqv r.went = .own r.lq 0 r.q.length none := by simp [rqv, show r.went.q = r.q from rfl, hqq]; rfl
        have hqn : r.q ≠ [] := by rw [hqq]; simp
        have hlq : r.lq < G.length := q1.lt (.inr (.inr ⟨hqn, rfl⟩))
        have hlen : r.q.length ≠ 0 := by rw [hqq]; simp
        unfold rRow at hst
        rw [hv] at hst
        refine VRow.of ((hget_other (by omega)).trans ((hget_rep _ _ _).trans hst)) ?_
        (conv => whnf)
        refine VB.append (et := 71) (size := 2) (nn := r.q.length) (z := [.int .i64 0, .str []]) (new := rcells r.q) rfl rfl rfl rfl rfl rfl ?_ (appendV_grow (b := 24) (size := 2) (blk := ⟨[], 71, false⟩) rfl rfl hlen (by rw [rcells_len]; omega) (rcells_one _) (hget_put (by simp)) (by omega) (by simp) (by omega) ?_)
        · simp only [srcCells]
          rw [hget_other (by omega), hget_rep, show hget G r.lq = some ⟨rcells r.q, 71, true⟩ from q1.qu hqn]
          show (if r.q.length ≤ r.q.length ∧ 0 + r.q.length * 2 ≤ (rcells r.q).length then some (((rcells r.q).drop 0).take (r.q.length * 2)) else none) = _
          rw [if_pos ⟨Nat.le_refl _, by rw [rcells_len]; omega⟩, List.drop_zero, Nat.mul_comm, ← rcells_len, List.take_length]
        refine VAlloc.at (by simp only [List.all_append, rcells_one]; rfl) (at_none (by simp) (by rw [hget_other (by omega), hget_rep, hget_out (by omega)])) ?_
        (conv => whnf)
        first
        | obtain ⟨gb, gb1, gb2, gb3⟩ := hbG.ownG
          have hbl := hget_lt gb1
          refine VIf.of (by simp; omega) ?_
          (conv => whnf)
          refine VIf.of (by omega) ?_
          (conv => whnf)
          refine VIf.of (by omega) ?_
          (conv => whnf)
          refine VIf.of (fun h0 => absurd h0 (by omega)) ?_
          (conv => whnf)
          refine VRow.of (b := gb) (by first | rw [hget_other (by omega), hget_rep, gb1] | rw [hget_other (by omega), hget_other (by omega), hget_rep, gb1]) ?_
          (conv => whnf)
          refine VIf.of gb2 ?_
          (conv => whnf)
          refine VBytes.of gb3 ?_
        | refine VIf.of (by simp) ?_
          (conv => whnf)
          refine VBytes.of (flatten_one _) ?_
        (conv => whnf)
        refine VAlloc.at rfl (at_none (by simp) (by rw [hget_other (by omega), hget_other (by omega), hget_rep, hget_out (by omega)])) ?_
        (conv => whnf)
        refine VRow.of (hget_put (by simp)) ?_
        (conv => whnf)
        have e0 : List.take (0 * 2) (List.drop 0 ({ cells := [], elem := 71, ext := false } : Blk).cells) ++ rcells r.q = rcells r.q := by simp
        rw [e0, Nat.zero_add]
        refine VB.append (et := 71) (size := 2) (nn := 1) (z := [.int .i64 0, .str []]) (new := [.int .i64 i, .str bs]) rfl rfl rfl rfl rfl rfl ?_ (appendV_more (b := 24) (size := 2) (blk := ⟨rcells r.q, 71, true⟩) rfl rfl (by omega) (by omega) rfl rfl ((hget_other (by omega)).trans (hget_put (by simp))) (by omega) (by rw [rcells_len]; omega) rfl (by omega) ?_)
        · simp only [srcCells]
          rw [hget_put (by simp)]
          rfl
        refine VAlloc.at (by simp only [List.all_append, rcells_one]; rfl) (at_none (by simp) (by rw [hget_other (by omega), hget_other (by omega), hget_other (by omega), hget_other (by omega), hget_rep, hget_out (by omega)])) ?_
        (conv => whnf)
        have eq1 : rcells (r.went.q ++ [(i, bs)]) = rcells r.q ++ [.int .i64 i, .str bs] := rcells_snoc _ _
        obtain ⟨k1, k2⟩ := rpush (H1 := (((((G ++ List.replicate 16 none).set (G.length + 1) (some ⟨[], 71, false⟩)).set (G.length + 6) (some ⟨rcells r.q, 71, true⟩)).set (G.length + 11) (some ⟨[.int .i64 i, .str bs], 71, false⟩)).set (G.length + 6) none)) (s2 := G.length + 12) q1 hin h2 hq (fun x hx => by rw [hget_other (by omega), hget_other (by omega), hget_other (by omega), hget_other (by omega), hget_rep]) ⟨by omega, by simp⟩
        rw [eq1] at k1 k2
        refine VWrite.to (b' := rRow { r.went with q := r.went.q ++ [(i, bs)], lq := G.length + 12 }) (by rw [hget_other (by omega), hget_other (by omega), hget_other (by omega), hget_other (by omega), hget_other (by omega), hget_rep]; exact hst) (Nat.zero_le _) rfl rfl ?_ ?_
        · simp [rRow, splice, rqv, show r.went.q = r.q from rfl, hqq]
        (conv => whnf)
        refine hk _ _ k1 rfl ?_ (q2.trans k2)
        simp [RD.abs, AD.went, RD.went]
  | lst g4 =>
    (conv => whnf)
    refine Kcond.dec (fun h0 => ?_) (fun h0 => ?_)
    · (conv => whnf)
      exact hbad (.inl (by omega))
    (conv => whnf)
    refine VRow.of hd.st ?_
    (conv => whnf)
    refine Kcond.dec (fun h1 => ?_) (fun h1 => ?_)
    · (conv => whnf)
      exact hbad (.inl (by omega))
    have hin : 0 ≤ i ∧ i < r.secs.length := by omega
    (conv => whnf)
    refine Kcond.neI (fun h2 => ?_) (fun h2 => ?_)
    · (conv => whnf)
      exact hbad (.inr fun hh => h2 (by simp [hh]))
    have h2 : bs.length = 64 := by first | omega | (simp at h2; omega)
    have e : ∀ x, r.abs.write i bs = x ↔ (if r.abs.went.gone = true then (11, r.abs.went) else if 0 ≤ r.cap ∧ r.cap ≤ i then (7, r.abs.went) else (0, { r.abs.went with q := r.abs.went.q ++ [(i, bs)] })) = x := fun x => by
      unfold AD.write; rw [if_neg (show ¬ (¬ (0 ≤ i ∧ i < r.abs.n) ∨ bs.length ≠ 64) from fun hh => hh.elim (fun h => h hin) fun h => h h2)]; rfl
    (conv => whnf)
    refine power_ok hd fun q1 q2 => ?_
    (conv => whnf)
    refine Kcond.not (Kcond.not (Kcond.by (fun h3 => ?_) (fun h3 => ?_)))
    · (conv => whnf)
      have e' := (e (11, r.abs.went)).2 (if_pos h3)
      have := hk _ _ q1 rfl (by rw [e']; rfl) q2
      rwa [e'] at this
    have hng : ¬ r.abs.went.gone = true := by rw [← rwent_abs]; intro hh; rw [show r.went.abs.gone = r.went.dark from rfl] at hh; rw [hh] at h3; cases h3
    (conv => whnf)
    refine VRow.of q1.st ?_
    (conv => whnf)
    by_cases h5 : 0 ≤ r.cap ∧ r.cap ≤ i
    · refine Kcond.t (decide_eq_true (p := r.went.cap ≥ 0) h5.1) ?_
      (conv => whnf)
      refine VRow.of q1.st ?_
      (conv => whnf)
      refine Kcond.t (decide_eq_true (p := i ≥ r.went.cap) h5.2) ?_
      (conv => whnf)
      have e' := (e (7, r.abs.went)).2 (by rw [if_neg hng, if_pos h5])
      have := hk _ _ q1 rfl (by rw [e']; rfl) q2
      rwa [e'] at this
    have e' := (e (0, { r.abs.went with q := r.abs.went.q ++ [(i, bs)] })).2 (by rw [if_neg hng, if_neg h5])
    rw [e'] at hk
    obtain ⟨G, hG⟩ : ∃ G, G = h.set r.l (some (rRow r.went)) := ⟨_, rfl⟩
    rw [← hG] at q1 q2 ⊢
    have hbG : ∀ v, Bytes h bs v → (∀ l off n c, v = .own l off n c → ¬ ownR r l) → Bytes G bs v := fun v hb hv => hb.frame fun l off n c e => by
      subst e
      cases hb with
      | own g1 _ _ => exact q2.old _ (hget_lt g1) (hv _ _ _ _ rfl)
    have hbG := hbG _ hb0 hv
    by_cases h6 : 0 ≤ r.cap
    all_goals
      first
      | refine Kcond.f (decide_eq_false (p := r.went.cap ≥ 0) (by show ¬ r.cap ≥ 0; omega)) ?_
      | refine Kcond.t (decide_eq_true (p := r.went.cap ≥ 0) (by show r.cap ≥ 0; omega)) ?_
        (conv => whnf)
        refine VRow.of q1.st ?_
        (conv => whnf)
        refine Kcond.f (decide_eq_false (p := i ≥ r.went.cap) (by show ¬ i ≥ r.cap; omega)) ?_
      (conv => whnf)
      refine VIf.of (by decide +kernel) ?_
      (conv => whnf)
      have hlG : r.l < G.length := q1.lt (.inl rfl)
      refine VAlloc.at rfl (rep_at _ _ _ (by omega)) ?_
      (conv => whnf)
      refine VRow.of (hget_put (by simp)) ?_
      (conv => whnf)
      refine VIf.of (fun h0 => absurd h0 (by omega)) ?_
      (conv => whnf)
      have hst := q1.st
      rcases hqq : r.q with _ | ⟨x0, qs⟩
      · have hv : rqv r.went = .lst true [] := by simp [rqv, show r.went.q = r.q from rfl, hqq]
        unfold rRow at hst
        rw [hv] at hst
        refine VRow.of ((hget_other (by omega)).trans ((hget_rep _ _ _).trans hst)) ?_
        (conv => whnf)
        refine VB.append (et := 71) (size := 2) (nn := 0) (z := [.int .i64 0, .str []]) (new := []) rfl rfl rfl rfl rfl rfl rfl ⟨_, _, appendA_zero rfl rfl (.inl ⟨_, _, _, _, rfl⟩), ?_⟩
        (conv => whnf)
        first
        | obtain ⟨gb, gb1, gb2, gb3⟩ := hbG.ownG
          have hbl := hget_lt gb1
          refine VIf.of (by simp; omega) ?_
          (conv => whnf)
          refine VIf.of (by omega) ?_
          (conv => whnf)
          refine VIf.of (by omega) ?_
          (conv => whnf)
          refine VIf.of (fun h0 => absurd h0 (by omega)) ?_
          (conv => whnf)
          refine VRow.of (b := gb) (by first | rw [hget_other (by omega), hget_rep, gb1] | rw [hget_other (by omega), hget_other (by omega), hget_rep, gb1]) ?_
          (conv => whnf)
          refine VIf.of gb2 ?_
          (conv => whnf)
          refine VBytes.of gb3 ?_
        | refine VIf.of (by simp) ?_
          (conv => whnf)
          refine VBytes.of (flatten_one _) ?_
        (conv => whnf)
        refine VAlloc.at rfl (at_none (by simp) (by rw [hget_other (by omega), hget_rep, hget_out (by omega)])) ?_
        (conv => whnf)
        refine VRow.of (hget_put (by simp)) ?_
        (conv => whnf)
        refine VB.append (et := 71) (size := 2) (nn := 1) (z := [.int .i64 0, .str []]) (new := [.int .i64 i, .str bs]) rfl rfl rfl rfl rfl rfl ?_ (appendV_grow (b := 24) (size := 2) (blk := ⟨[], 71, false⟩) rfl rfl (by omega) rfl rfl ((hget_other (by omega)).trans (hget_put (by simp))) (by omega) (by simp) (by omega) ?_)
        · simp only [srcCells]
          rw [hget_put (by simp)]
          rfl
        refine VAlloc.at rfl (at_none (by simp) (by rw [hget_other (by omega), hget_other (by omega), hget_rep, hget_out (by omega)])) ?_
        (conv => whnf)
        have eq1 : rcells (r.went.q ++ [(i, bs)]) = [.int .i64 i, .str bs] := by simp [rcells, show r.went.q = r.q from rfl, hqq]
        obtain ⟨k1, k2⟩ := rpush (H1 := (((G ++ List.replicate 16 none).set (G.length + 1) (some ⟨[], 71, false⟩)).set (G.length + 11) (some ⟨[.int .i64 i, .str bs], 71, false⟩))) (s2 := G.length + 12) q1 hin h2 hq (fun x hx => by rw [hget_other (by omega), hget_other (by omega), hget_rep]) ⟨by omega, by simp⟩
        rw [eq1] at k1 k2
        refine VWrite.to (b' := rRow { r.went with q := r.went.q ++ [(i, bs)], lq := G.length + 12 }) (by rw [hget_other (by omega), hget_other (by omega), hget_other (by omega), hget_rep]; exact hst) (Nat.zero_le _) rfl rfl ?_ ?_
        · simp [rRow, splice, rqv, show r.went.q = r.q from rfl, hqq]
        (conv => whnf)
        refine hk _ _ k1 rfl ?_ (q2.trans k2)
        simp [RD.abs, AD.went, RD.went]
      · have hv : rqv r.went = .own r.lq 0 r.q.length none := by simp [rqv, show r.went.q = r.q from rfl, hqq]; rfl
        have hqn : r.q ≠ [] := by rw [hqq]; simp
        have hlq : r.lq < G.length := q1.lt (.inr (.inr ⟨hqn, rfl⟩))
        have hlen : r.q.length ≠ 0 := by rw [hqq]; simp
        unfold rRow at hst
        rw [hv] at hst
        refine VRow.of ((hget_other (by omega)).trans ((hget_rep _ _ _).trans hst)) ?_
        (conv => whnf)
        refine VB.append (et := 71) (size := 2) (nn := r.q.length) (z := [.int .i64 0, .str []]) (new := rcells r.q) rfl rfl rfl rfl rfl rfl ?_ (appendV_grow (b := 24) (size := 2) (blk := ⟨[], 71, false⟩) rfl rfl hlen (by rw [rcells_len]; omega) (rcells_one _) (hget_put (by simp)) (by omega) (by simp) (by omega) ?_)
        · simp only [srcCells]
          rw [hget_other (by omega), hget_rep, show hget G r.lq = some ⟨rcells r.q, 71, true⟩ from q1.qu hqn]
          show (if r.q.length ≤ r.q.length ∧ 0 + r.q.length * 2 ≤ (rcells r.q).length then some (((rcells r.q).drop 0).take (r.q.length * 2)) else none) = _
          rw [if_pos ⟨Nat.le_refl _, by rw [rcells_len]; omega⟩, List.drop_zero, Nat.mul_comm, ← rcells_len, List.take_length]
        refine VAlloc.at (by simp only [List.all_append, rcells_one]; rfl) (at_none (by simp) (by rw [hget_other (by omega), hget_rep, hget_out (by omega)])) ?_
        (conv => whnf)
        first
        | obtain ⟨gb, gb1, gb2, gb3⟩ := hbG.ownG
          have hbl := hget_lt gb1
          refine VIf.of (by simp; omega) ?_
          (conv => whnf)
          refine VIf.of (by omega) ?_
          (conv => whnf)
          refine VIf.of (by omega) ?_
          (conv => whnf)
          refine VIf.of (fun h0 => absurd h0 (by omega)) ?_
          (conv => whnf)
          refine VRow.of (b := gb) (by first | rw [hget_other (by omega), hget_rep, gb1] | rw [hget_other (by omega), hget_other (by omega), hget_rep, gb1]) ?_
          (conv => whnf)
          refine VIf.of gb2 ?_
          (conv => whnf)
          refine VBytes.of gb3 ?_
        | refine VIf.of (by simp) ?_
          (conv => whnf)
          refine VBytes.of (flatten_one _) ?_
        (conv => whnf)
        refine VAlloc.at rfl (at_none (by simp) (by rw [hget_other (by omega), hget_other (by omega), hget_rep, hget_out (by omega)])) ?_
        (conv => whnf)
        refine VRow.of (hget_put (by simp)) ?_
        (conv => whnf)
        have e0 : List.take (0 * 2) (List.drop 0 ({ cells := [], elem := 71, ext := false } : Blk).cells) ++ rcells r.q = rcells r.q := by simp
        rw [e0, Nat.zero_add]
        refine VB.append (et := 71) (size := 2) (nn := 1) (z := [.int .i64 0, .str []]) (new := [.int .i64 i, .str bs]) rfl rfl rfl rfl rfl rfl ?_ (appendV_more (b := 24) (size := 2) (blk := ⟨rcells r.q, 71, true⟩) rfl rfl (by omega) (by omega) rfl rfl ((hget_other (by omega)).trans (hget_put (by simp))) (by omega) (by rw [rcells_len]; omega) rfl (by omega) ?_)
        · simp only [srcCells]
          rw [hget_put (by simp)]
          rfl
        refine VAlloc.at (by simp only [List.all_append, rcells_one]; rfl) (at_none (by simp) (by rw [hget_other (by omega), hget_other (by omega), hget_other (by omega), hget_other (by omega), hget_rep, hget_out (by omega)])) ?_
        (conv => whnf)
        have eq1 : rcells (r.went.q ++ [(i, bs)]) = rcells r.q ++ [.int .i64 i, .str bs] := rcells_snoc _ _
        obtain ⟨k1, k2⟩ := rpush (H1 := (((((G ++ List.replicate 16 none).set (G.length + 1) (some ⟨[], 71, false⟩)).set (G.length + 6) (some ⟨rcells r.q, 71, true⟩)).set (G.length + 11) (some ⟨[.int .i64 i, .str bs], 71, false⟩)).set (G.length + 6) none)) (s2 := G.length + 12) q1 hin h2 hq (fun x hx => by rw [hget_other (by omega), hget_other (by omega), hget_other (by omega), hget_other (by omega), hget_rep]) ⟨by omega, by simp⟩
        rw [eq1] at k1 k2
        refine VWrite.to (b' := rRow { r.went with q := r.went.q ++ [(i, bs)], lq := G.length + 12 }) (by rw [hget_other (by omega), hget_other (by omega), hget_other (by omega), hget_other (by omega), hget_other (by omega), hget_rep]; exact hst) (Nat.zero_le _) rfl rfl ?_ ?_
        · simp [rRow, splice, rqv, show r.went.q = r.q from rfl, hqq]
        (conv => whnf)
        refine hk _ _ k1 rfl ?_ (q2.trans k2)
        simp [RD.abs, AD.went, RD.went]

/-- the sectors, with the first so many writes in them -/
def lastS (s : List (List UInt8)) (q : List (Int × List UInt8)) : List (List UInt8) := q.foldl (fun s x => s.set x.1.toNat x.2) s
theorem lastS_snoc (s : List (List UInt8)) (q : List (Int × List UInt8)) (x : Int × List UInt8) : lastS s (q ++ [x]) = (lastS s q).set x.1.toNat x.2 := by simp [lastS]
theorem lastS_len (s : List (List UInt8)) (q : List (Int × List UInt8)) : (lastS s q).length = s.length := by
  induction q generalizing s with
  | nil => rfl
  | cons x q ih => simp only [lastS, List.foldl_cons] at ih ⊢; rw [ih]; simp
theorem lastS_64 {s : List (List UInt8)} {q : List (Int × List UInt8)} (hs : ∀ x, x ∈ s → x.length = 64) (hq : ∀ x, x ∈ q → x.2.length = 64) : ∀ x, x ∈ lastS s q → x.length = 64 := by
  induction q generalizing s with
  | nil => exact hs
  | cons x q ih =>
    refine ih (s := s.set x.1.toNat x.2) (fun y hy => ?_) fun y hy => hq y (List.mem_cons_of_mem _ hy)
    rcases List.mem_or_eq_of_mem_set hy with h | h
    · exact hs y h
    · rw [h]; exact hq x (List.mem_cons_self ..)
theorem lastS_flat {s : List (List UInt8)} {q : List (Int × List UInt8)} (hs : ∀ x, x ∈ s → x.length = 64) (hq : ∀ x, x ∈ q → x.2.length = 64 ∧ 0 ≤ x.1 ∧ x.1 < s.length) : (lastS s q).flatten = settledA s.flatten q := by
  induction q generalizing s with
  | nil => rfl
  | cons x q ih =>
    have hx := hq x (List.mem_cons_self ..)
    have e := flatten_patch (s := s) (k := x.1.toNat) (x := s[x.1.toNat]'(by omega)) (b := x.2) hs (List.getElem?_eq_getElem (by omega)) (by omega)
    have hd : (s[x.1.toNat]'(by omega)).drop x.2.length = [] := List.drop_eq_nil_of_le (by have := hs _ (List.getElem_mem (h := (by omega : x.1.toNat < s.length))); omega)
    rw [hd, List.append_nil] at e
    simp only [lastS, settledA, List.foldl_cons] at ih ⊢
    rw [e]
    refine ih (s := s.set x.1.toNat x.2) (fun y hy => ?_) fun y hy => by simpa using hq y (List.mem_cons_of_mem _ hy)
    rcases List.mem_or_eq_of_mem_set hy with h | h
    · exact hs y h
    · rw [h]; exact hx.1

theorem lasts_ok (hd : RAt h r) {n : Nat} (hn : n ≤ r.q.length) (hk : ∀ h' ls, RAt h' { r with secs := lastS r.secs (r.q.take n), ls := ls } → RFrame h r h' { r with secs := lastS r.secs (r.q.take n), ls := ls } → K (.tup []) h' L) : VCall CD 0 38 [.ptr (some (r.l, 0)), .int .i64 n] h L K := by
  refine VCall.full (fn := Try.f38) Try.func38 rfl rfl ?_
  have hnn := hd.nn
  have hqb := hd.qb
  have hl := hd.lt (.inl rfl)
  have hls := hd.lt (.inr (.inl rfl))
  (conv => whnf)
  refine VAlloc.new rfl ?_
  (conv => whnf)
  refine VRow.of ((hget_old hl).trans hd.st) ?_
  (conv => whnf)
  refine VB.append (et := 9) (size := 1) (nn := r.secs.length) (z := [.str []]) (new := r.secs.map .str) rfl rfl rfl rfl rfl rfl ?_ (appendV_grow (b := 16) (size := 1) (blk := ⟨[], 9, false⟩) rfl rfl (by omega) (by simp) (by simp [List.all_eq_true, AVal.one]) (hget_new _ _) (by omega) (by simp) (by omega) ?_)
  · simp only [srcCells]
    rw [hget_old hls, hd.sc]
    show (if r.secs.length ≤ r.secs.length ∧ 0 + r.secs.length * 1 ≤ (r.secs.map AVal.str).length then some (((r.secs.map AVal.str).drop 0).take (r.secs.length * 1)) else none) = _
    rw [if_pos ⟨Nat.le_refl _, by simp⟩, List.drop_zero, Nat.mul_one, ← List.length_map (f := AVal.str), List.take_length]
  refine VAlloc.new (by simp [List.all_append, List.all_eq_true, AVal.one]) ?_
  (conv => whnf)
  have e1 : (h ++ [some (⟨[], 9, false⟩ : Blk)]).length = h.length + 1 := by simp
  have e2 : List.take (0 * 1) (List.drop 0 ({ cells := [], elem := 9, ext := false } : Blk).cells) ++ r.secs.map AVal.str = r.secs.map AVal.str := by simp
  rw [e1, e2, Nat.zero_add]
  refine VWrite.to (b' := rRow { r with ls := h.length + 1 }) ((hget_old (by simp; omega)).trans ((hget_old hl).trans hd.st)) (Nat.zero_le _) rfl rfl (by simp only [rRow, splice, Nat.zero_add]; rfl) ?_
  obtain ⟨H, hH⟩ : ∃ H, H = (h ++ [some (⟨[], 9, false⟩ : Blk)] ++ [some (⟨r.secs.map AVal.str, 9, true⟩ : Blk)]).set r.l (some (rRow { r with ls := h.length + 1 })) := ⟨_, rfl⟩
  have Hl : H.length = h.length + 2 := by rw [hH]; simp
  have H0 : ∀ x, x < h.length → x ≠ r.l → hget H x = hget h x := fun x hx hne => by rw [hH, hget_other hne, hget_old (by simp; omega), hget_old hx]
  have H1 : hget H r.l = some (rRow { r with ls := h.length + 1 }) := by rw [hH]; exact hget_put (by simp; omega)
  have H2 : hget H (h.length + 1) = some (sRow r.secs) := by rw [hH, hget_other (by omega), ← e1, hget_new]; rfl
  rw [← hH]
  (conv => whnf)
  refine VLoop.invL (fun k e h' => ∃ e0 m, m + k = n ∧ e = put (put (put e0 0 (.ptr (some (r.l, 0)))) 1 (.int .i64 n)) 4 (.int .i64 m) ∧ H.length ≤ h'.length ∧ (∀ x, x < H.length → x ≠ h.length + 1 → hget h' x = hget H x) ∧ hget h' (h.length + 1) = some (sRow (lastS r.secs (r.q.take m)))) ?_ (k := n)
    ⟨_, 0, by omega, put_eq3 rfl rfl rfl, Nat.le_refl _, fun _ _ _ => rfl, H2⟩
  rintro k e h' ⟨e0, m, hm, rfl, k1, k2, k3⟩
  (conv => whnf)
  refine Kcond.dec (fun hc => ?_) (fun hc => ?_)
  · obtain ⟨w, hw⟩ : ∃ w, r.q[m]? = some w := ⟨_, List.getElem?_eq_getElem (by omega)⟩
    have hwm : w ∈ r.q := List.mem_of_getElem? hw
    have hw64 := hd.q64 w hwm
    obtain ⟨hv, hqr⟩ := hd.qrow hw
    have hqn : r.q ≠ [] := by intro h0; rw [h0] at hwm; cases hwm
    have hlq := hd.lt (.inr (.inr ⟨hqn, rfl⟩))
    have hlql := (hd.ql hqn).1
    have htk : r.q.take (m + 1) = r.q.take m ++ [w] := by rw [List.take_add_one, hw]; rfl
    have hst : hget h' r.l = some ⟨[.own (h.length + 1) 0 r.secs.length none, .own r.lq 0 r.q.length none, .int .i64 r.trip, .int .i64 r.cap, .bool r.dark], 41, false⟩ := by
      rw [k2 _ (by omega) (by omega), H1]
      unfold rRow
      rw [← hv]; rfl
    have hqr' : hget h' r.lq = some ⟨rcells r.q, 71, true⟩ := by rw [k2 _ (by omega) (by omega), H0 _ hlq hlql]; exact hqr
    have c1 : (rcells r.q).drop (0 + (m : Int).toNat * 2 + 0) = .int .i64 w.1 :: .str w.2 :: (rcells r.q).drop (m * 2 + 2) := by
      have := rcells_at hw; simpa using this
    have c2 : (rcells r.q).drop (0 + (m : Int).toNat * 2 + 1) = .str w.2 :: (rcells r.q).drop (m * 2 + 2) := by
      have := congrArg (List.drop 1) (rcells_at hw)
      rw [List.drop_drop] at this
      simpa using this
    (conv => whnf)
    refine VIf.of (by decide +kernel) ?_
    (conv => whnf)
    refine VIf.of (fun h0 => absurd h0 (by omega)) ?_
    (conv => whnf)
    refine VRow.of ((hget_rep _ _ _).trans hst) ?_
    (conv => whnf)
    refine VIf.of (fun h0 => absurd h0 (by omega)) ?_
    (conv => whnf)
    refine VRow.of ((hget_rep _ _ _).trans hst) ?_
    (conv => whnf)
    refine VIf.of ⟨by omega, by omega⟩ ?_
    (conv => whnf)
    refine VIf.of (fun h0 => absurd h0 (by omega)) ?_
    (conv => whnf)
    refine VRow.of ((hget_rep _ _ _).trans hqr') ?_
    refine Kopt.of (loadAV_one rfl c1) ?_
    (conv => whnf)
    refine VIf.of (fun h0 => absurd h0 (by omega)) ?_
    (conv => whnf)
    refine VRow.of ((hget_rep _ _ _).trans hst) ?_
    (conv => whnf)
    refine VIf.of ⟨by omega, by omega⟩ ?_
    (conv => whnf)
    refine VIf.of (fun h0 => absurd h0 (by omega)) ?_
    (conv => whnf)
    refine VRow.of ((hget_rep _ _ _).trans hqr') ?_
    refine Kopt.of (loadAV_one rfl c2) ?_
    (conv => whnf)
    refine VIf.of ⟨by omega, by omega⟩ ?_
    (conv => whnf)
    have hsl : (lastS r.secs (r.q.take m)).length = r.secs.length := lastS_len _ _
    refine VWrite.of ((hget_rep _ _ _).trans k3) (Nat.zero_le _) (by simp [sRow, hsl]; omega) rfl ?_
    (conv => whnf)
    refine Kwrap.fit (by omega) ?_
    (conv => whnf)
    refine ⟨rfl, k - 1, by omega, _, m + 1, by omega, put_eq3 rfl rfl rfl, by simp; omega, fun x hx hne => ?_, ?_⟩
    · rw [hget_other hne, hget_rep, k2 x hx hne]
    · rw [hget_put (by simp; omega), htk, lastS_snoc]
      simp only [sRow, Option.some.injEq, Blk.mk.injEq, and_true]
      rw [List.map_set]
      simp only [splice, List.length_cons, List.length_nil, Nat.zero_add, Nat.mul_one]
      rw [List.set_eq_take_append_cons_drop, if_pos (by simp [hsl]; omega)]
      simp
  · (conv => whnf)
    have hmn : m = n := by omega
    subst hmn
    have hsl : (lastS r.secs (r.q.take m)).length = r.secs.length := lastS_len _ _
    refine hk h' (h.length + 1) ⟨?_, k3, fun hq => ?_, by simp only; omega, fun hq => ⟨(hd.ql hq).1, by have := hd.lt (.inr (.inr ⟨hq, rfl⟩)); simp only; omega⟩, lastS_64 hd.s64 fun x hx => (hd.q64 x (List.mem_of_mem_take hx)).1, fun x hx => by simp only [hsl]; exact hd.q64 x hx, by simp only [hsl]; exact hd.nn, hd.tr, hd.cp, hd.qb⟩ ⟨by omega, fun x hx ho => ?_, fun x hx => ?_⟩
    · show hget h' r.l = _
      rw [k2 _ (by omega) (by omega), H1]
      simp only [rRow, hsl]; rfl
    · show hget h' r.lq = _
      have := hd.lt (.inr (.inr ⟨hq, rfl⟩))
      rw [k2 _ (by omega) (by omega), H0 _ this (hd.ql hq).1]
      exact hd.qu hq
    · have hne : x ≠ r.l := fun e => ho (.inl e)
      rw [k2 x (by omega) (by omega), H0 x hx hne]
    · rcases hx with rfl | rfl | hx
      · exact .inl (.inl rfl)
      · exact .inr (by simp only; omega)
      · exact .inl (.inr (.inr hx))
end Go.Proofs.Ytcdjkpppfghkpaa
