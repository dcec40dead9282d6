/-
  The document's disk: syncs, crashes, images.
-/
import Derived.Test.YtcdjkpppfghkpaaDiskS
set_option linter.unusedVariables false
set_option linter.unusedSimpArgs false
namespace Go.Proofs.Ytcdjkpppfghkpaa
open Go Go.Abs Go.Proofs

variable {base : Nat} {h : Heap} {L : LS} {r : RD} {K : AVal → Heap → LS → Prop}

/-- the queue is emptied -/
theorem RAt.empty (hd : RAt h r) {trip : Int} {dark : Bool} (hl : -1 ≤ trip ∧ trip < 9223372036854775808) : RAt (h.set r.l (some (rRow { r with q := [], trip := trip, dark := dark }))) { r with q := [], trip := trip, dark := dark } ∧ RFrame h r (h.set r.l (some (rRow { r with q := [], trip := trip, dark := dark }))) { r with q := [], trip := trip, dark := dark } := by
  have hlt := hget_lt hd.st
  refine ⟨⟨hget_put hlt, ?_, fun hq => absurd rfl hq, hd.sl, fun hq => absurd rfl hq, hd.s64, fun x hx => (by cases hx), hd.nn, hl, hd.cp, by simp⟩, ⟨by simp, fun x hx ho => hget_other fun e => ho (.inl e), fun x hx => ?_⟩⟩
  · show hget _ r.ls = _
    rw [hget_other hd.sl]; exact hd.sc
  · rcases hx with rfl | rfl | ⟨hq, _⟩
    · exact .inl (.inl rfl)
    · exact .inl (.inr (.inl rfl))
    · exact absurd rfl hq

theorem lasts_abs (hd : RAt h r) {n : Nat} (ls : Nat) : ({ r with secs := lastS r.secs (r.q.take n), ls := ls } : RD).abs = { r.abs with kept := settledA r.abs.kept (r.abs.q.take n) } := by
  simp only [RD.abs, lastS_len]
  rw [lastS_flat hd.s64 fun x hx => hd.q64 x (List.mem_of_mem_take hx)]

theorem rsync_ok (hd : RAt h r) (hk : ∀ h' r', RAt h' r' → r'.l = r.l → r'.abs = r.abs.sync.2 → RFrame h r h' r' → K (.int .i64 r.abs.sync.1) h' L) : VCall CD 0 28 [.ptr (some (r.l, 0))] h L K := by
  refine VCall.full (fn := Try.f28) Try.func28 rfl rfl ?_
  (conv => whnf)
  refine power_ok hd fun q1 q2 => ?_
  (conv => whnf)
  refine Kcond.not (Kcond.not (Kcond.by (fun h2 => ?_) (fun h2 => ?_)))
  · (conv => whnf)
    have e : r.abs.sync = (11, r.abs.went) := if_pos h2
    have := hk _ _ q1 rfl (by rw [e]; rfl) q2
    rwa [e] at this
  obtain ⟨G, hG⟩ : ∃ G, G = h.set r.l (some (rRow r.went)) := ⟨_, rfl⟩
  rw [← hG] at q1 q2 ⊢
  have e : r.abs.sync = (0, { r.abs.went with kept := settledA r.abs.kept r.abs.q, q := [] }) := if_neg (by rw [← rwent_abs]; intro hh; rw [show r.went.abs.gone = r.went.dark from rfl] at hh; rw [hh] at h2; cases h2)
  rw [e] at hk
  have tail : ∀ h' ls, RAt h' { r.went with secs := lastS r.went.secs (r.went.q.take r.q.length), ls := ls } → RFrame G r.went h' { r.went with secs := lastS r.went.secs (r.went.q.take r.q.length), ls := ls } → K (.int .i64 0) (h'.set r.l (some (rRow { r.went with secs := lastS r.went.secs (r.went.q.take r.q.length), ls := ls, q := [] }))) L := by
    intro h' ls r1 r2
    obtain ⟨s1, s2⟩ := r1.empty (trip := r.went.trip) (dark := r.went.dark) r1.tr
    refine hk _ _ s1 rfl ?_ (q2.trans (r2.trans s2))
    have ea := lasts_abs q1 (n := r.q.length) ls
    have et : r.went.abs.q.take r.q.length = r.abs.q := List.take_length
    rw [et] at ea
    have := congrArg (fun a : AD => { a with q := [] }) ea
    exact this
  (conv => whnf)
  refine VRow.of q1.st ?_
  unfold rRow
  rcases rqv_len r.went with ⟨n, hv, hn⟩ | ⟨hv, hn⟩
  · rw [hv]
    (conv => whnf)
    rw [hn]
    refine lasts_ok q1 (n := r.q.length) (Nat.le_refl _) fun h' ls r1 r2 => ?_
    (conv => whnf)
    refine VWrite.to (b' := rRow { r.went with secs := lastS r.went.secs (r.went.q.take r.q.length), ls := ls, q := [] }) r1.st (Nat.zero_le _) rfl rfl (by simp [rRow, splice, rqv]) ?_
    (conv => whnf)
    exact tail h' ls r1 r2
  · rw [hv]
    (conv => whnf)
    have hn0 : r.q.length = 0 := by rw [show r.q = r.went.q from rfl, hn]; rfl
    refine lasts_ok q1 (n := 0) (Nat.zero_le _) fun h' ls r1 r2 => ?_
    rw [← hn0] at r1 r2
    (conv => whnf)
    refine VWrite.to (b' := rRow { r.went with secs := lastS r.went.secs (r.went.q.take r.q.length), ls := ls, q := [] }) r1.st (Nat.zero_le _) rfl rfl (by simp [rRow, splice, rqv]) ?_
    (conv => whnf)
    exact tail h' ls r1 r2

theorem strs_drop {s : List (List UInt8)} {k : Nat} {x : List UInt8} (hk : s[k]? = some x) : (s.map AVal.str).drop k = .str x :: (s.map AVal.str).drop (k + 1) := by
  have hlt := (List.getElem?_eq_some_iff.1 hk).1
  rw [List.drop_eq_getElem_cons (by simpa using hlt)]
  congr 1
  rw [List.getElem?_eq_getElem hlt] at hk
  simp at hk
  simp [hk]

theorem rimage_ok (hd : RAt h r) (hk : K (.str r.secs.flatten) h L) : VCall CD base 16 [.ptr (some (r.l, 0))] h L K := by
  refine VCall.grow (fn := Try.f16) Try.func16 rfl rfl ?_
  have hnn := hd.nn
  (conv => whnf)
  refine VLoop.still (fun k e => ∃ e0 m, m + k = r.secs.length ∧ e = put (put (put e0 0 (.ptr (some (r.l, 0)))) 3 (.str (r.secs.take m).flatten)) 4 (.int .i64 m)) ?_ (k := r.secs.length) ⟨_, 0, by omega, put_eq3 rfl rfl rfl⟩
  rintro k e ⟨e0, m, hm, rfl⟩
  (conv => whnf)
  refine VRow.of hd.st ?_
  (conv => whnf)
  refine Kcond.dec (fun hc => ?_) (fun hc => ?_)
  · obtain ⟨w, hw⟩ : ∃ w, r.secs[m]? = some w := ⟨_, List.getElem?_eq_getElem (by omega)⟩
    have htk : r.secs.take (m + 1) = r.secs.take m ++ [w] := by rw [List.take_add_one, hw]; rfl
    (conv => whnf)
    refine VRow.of hd.st ?_
    (conv => whnf)
    refine VIf.of ⟨by omega, by omega⟩ ?_
    (conv => whnf)
    refine VRow.of hd.sc ?_
    refine Kopt.of (loadAV_one (v := .str w) (r := (r.secs.map AVal.str).drop (m + 1)) rfl (by simpa [sRow] using strs_drop hw)) ?_
    (conv => whnf)
    have h1 : (r.secs.take m).flatten.length = 64 * (r.secs.take m).length := flatten_len fun x hx => hd.s64 x (List.mem_of_mem_take hx)
    have h2 := hd.s64 w (List.mem_of_getElem? hw)
    refine VIf.of (by rw [h1, h2, List.length_take]; omega) ?_
    (conv => whnf)
    refine Kwrap.fit (by omega) ?_
    (conv => whnf)
    refine ⟨rfl, rfl, k - 1, by omega, _, m + 1, by omega, put_eq3 rfl ?_ rfl⟩
    rw [htk, List.flatten_append]
    simp only [List.flatten_cons, List.flatten_nil, List.append_nil]
    rfl
  · (conv => whnf)
    rw [List.take_of_length_le (by omega)]
    exact hk

set_option maxRecDepth 20000 in
theorem rcrash_ok (hd : RAt h r) (keep torn : Int) (hk : ∀ h' r', RAt h' r' → r'.l = r.l → r'.abs = r.abs.crash keep torn → RFrame h r h' r' → K (.tup []) h' L) : VCall CD 0 29 [.ptr (some (r.l, 0)), .int .i64 keep, .int .i64 torn] h L K := by
  refine VCall.full (fn := Try.f29) Try.func29 rfl rfl ?_
  have hnn := hd.nn
  have hqb := hd.qb
  (conv => whnf)
  refine VRow.of hd.st ?_
  have done : ∀ {h2 : Heap} {r2 : RD}, RAt h2 r2 → RFrame h r h2 r2 → r2.l = r.l → r2.cap = r.cap → r2.secs.length = r.secs.length → r2.secs.flatten = (r.abs.crash keep torn).kept → K (.tup []) (h2.set r.l (some (rRow { r2 with q := [], trip := -1, dark := false }))) L := by
    intro h2 r2 k1 k2 e1 e2 e3 e4
    obtain ⟨s1, s2⟩ := k1.empty (trip := -1) (dark := false) (by omega)
    rw [e1] at s1 s2
    refine hk _ _ s1 rfl ?_ (k2.trans s2)
    unfold AD.crash at e4 ⊢
    simp only [RD.abs, e2, e3] at e4 ⊢
    rw [e4]
  unfold rRow
  rcases rqv_len r with ⟨n, hv, hn⟩ | ⟨hv, hn⟩
  · rw [hv]
    subst hn
    (conv => whnf)
    obtain ⟨kk, hkk⟩ : ∃ kk : Int, kk = (if (r.q.length : Int) < if 0 > keep then 0 else keep then (r.q.length : Int) else if 0 > keep then 0 else keep) := ⟨_, rfl⟩
    rw [← hkk]
    have hk1 : 0 ≤ kk ∧ kk ≤ r.q.length ∧ kk = min (max keep 0) r.q.length := by omega
    obtain ⟨k, rfl⟩ : ∃ k : Nat, kk = k := ⟨kk.toNat, by omega⟩
    refine lasts_ok hd (n := k) (by omega) fun h2 ls k1 k2 => ?_
    (conv => whnf)
    have hst2 : hget h2 r.l = some ⟨[.own ls 0 (lastS r.secs (r.q.take k)).length none, .own r.lq 0 r.q.length none, .int .i64 r.trip, .int .i64 r.cap, .bool r.dark], 41, false⟩ := by
      have := k1.st
      unfold rRow at this
      rw [show rqv { r with secs := lastS r.secs (r.q.take k), ls := ls } = rqv r from rfl, hv] at this
      exact this
    refine VRow.of hst2 ?_
    (conv => whnf)
    have ek : (min (max keep 0) r.abs.q.length).toNat = k := by simp [RD.abs]; omega
    have hsl : (lastS r.secs (r.q.take k)).length = r.secs.length := lastS_len _ _
    have hfl : (lastS r.secs (r.q.take k)).flatten = settledA r.abs.kept (r.abs.q.take k) := lastS_flat hd.s64 fun x hx => hd.q64 x (List.mem_of_mem_take hx)
    refine Kcond.dec (fun hc => ?_) (fun hc => ?_)
    · obtain ⟨w, hw⟩ : ∃ w, r.q[k]? = some w := ⟨_, List.getElem?_eq_getElem (by omega)⟩
      have hwm : w ∈ r.q := List.mem_of_getElem? hw
      have hw64 := hd.q64 w hwm
      have hqn : r.q ≠ [] := by intro h0; rw [h0] at hwm; cases hwm
      have hqr : hget h2 r.lq = some ⟨rcells r.q, 71, true⟩ := k1.qu hqn
      have hlq := hget_lt hqr
      have hls := hget_lt k1.sc
      have hll := hget_lt hst2
      have c1 : (rcells r.q).drop (0 + (k : Int).toNat * 2 + 0) = .int .i64 w.1 :: .str w.2 :: (rcells r.q).drop (k * 2 + 2) := by
        have := rcells_at hw; simpa using this
      have c2 : (rcells r.q).drop (0 + (k : Int).toNat * 2 + 1) = .str w.2 :: (rcells r.q).drop (k * 2 + 2) := by
        have := congrArg (List.drop 1) (rcells_at hw)
        rw [List.drop_drop] at this
        simpa using this
      (conv => whnf)
      obtain ⟨tt, htt⟩ : ∃ tt : Int, tt = (if (64 : Int) < if 0 > torn then 0 else torn then (64 : Int) else if 0 > torn then 0 else torn) := ⟨_, rfl⟩
      rw [← htt]
      have ht1 : 0 ≤ tt ∧ tt ≤ 64 ∧ tt = min (max torn 0) 64 := by omega
      obtain ⟨t, rfl⟩ : ∃ t : Nat, tt = t := ⟨tt.toNat, by omega⟩
      refine VRow.of hst2 ?_
      (conv => whnf)
      refine VIf.of ⟨by omega, by omega⟩ ?_
      (conv => whnf)
      refine VRow.of hqr ?_
      refine Kopt.of (loadAV_one rfl c1) ?_
      (conv => whnf)
      obtain ⟨s, hs⟩ : ∃ s, (lastS r.secs (r.q.take k))[w.1.toNat]? = some s := ⟨_, List.getElem?_eq_getElem (by omega)⟩
      have hs64 := k1.s64 s (List.mem_of_getElem? hs)
      refine VIf.of (by decide +kernel) ?_
      (conv => whnf)
      refine VIf.of (fun h0 => absurd h0 (by show ¬ h2.length ≤ r.l; omega)) ?_
      (conv => whnf)
      refine VRow.of ((hget_rep _ _ _).trans hst2) ?_
      (conv => whnf)
      refine VIf.of (fun h0 => absurd h0 (by show ¬ h2.length ≤ r.l; omega)) ?_
      (conv => whnf)
      refine VRow.of ((hget_rep _ _ _).trans hst2) ?_
      (conv => whnf)
      refine VIf.of ⟨by omega, by omega⟩ ?_
      (conv => whnf)
      refine VIf.of (fun h0 => absurd h0 (by show ¬ h2.length ≤ r.lq; omega)) ?_
      (conv => whnf)
      refine VRow.of ((hget_rep _ _ _).trans hqr) ?_
      refine Kopt.of (loadAV_one rfl c2) ?_
      (conv => whnf)
      refine VIf.of ⟨by omega, by omega, by omega⟩ ?_
      (conv => whnf)
      refine VIf.of (fun h0 => absurd h0 (by show ¬ h2.length ≤ r.l; omega)) ?_
      (conv => whnf)
      refine VRow.of ((hget_rep _ _ _).trans hst2) ?_
      (conv => whnf)
      refine VIf.of ⟨by omega, by omega⟩ ?_
      (conv => whnf)
      refine VIf.of (fun h0 => absurd h0 (by show ¬ h2.length ≤ ls; exact Nat.not_le.2 hls)) ?_
      (conv => whnf)
      refine VRow.of ((hget_rep _ _ _).trans k1.sc) ?_
      refine Kopt.of (loadAV_one (v := .str s) (r := ((lastS r.secs (r.q.take k)).map AVal.str).drop (w.1.toNat + 1)) rfl (by simpa [sRow] using strs_drop hs)) ?_
      (conv => whnf)
      refine VIf.of ⟨by omega, by omega, by omega⟩ ?_
      (conv => whnf)
      refine VIf.of (by simp; omega) ?_
      (conv => whnf)
      refine VIf.of ⟨by omega, by omega⟩ ?_
      (conv => whnf)
      have hstr : ((w.2.take (t : Int).toNat).drop (0 : Int).toNat ++ (s.take (s.length : Int).toNat).drop (t : Int).toNat) = w.2.take t ++ s.drop (w.2.take t).length := by
        have e1 : (w.2.take t).length = t := by simp; omega
        rw [e1]
        simp
      rw [hstr]
      refine VWrite.as (b' := sRow ((lastS r.secs (r.q.take k)).set w.1.toNat (w.2.take t ++ s.drop (w.2.take t).length))) ((hget_rep _ _ _).trans k1.sc) (Nat.zero_le _) (by simp [sRow, hsl]; omega) rfl ?_ ?_
      · simp only [sRow, Nat.zero_add, Nat.mul_one, Blk.mk.injEq, and_true]
        rw [splice_one (by simp [hsl]; omega), List.map_set]
      (conv => whnf)
      have k3 : RAt ((h2 ++ List.replicate 27 none).set ls (some (sRow ((lastS r.secs (r.q.take k)).set w.1.toNat (w.2.take t ++ s.drop (w.2.take t).length))))) { r with secs := (lastS r.secs (r.q.take k)).set w.1.toNat (w.2.take t ++ s.drop (w.2.take t).length), ls := ls } := by
        have e1 : (w.2.take t).length = t := by simp; omega
        refine ⟨?_, ?_, fun hq => ?_, k1.sl, k1.ql, fun x hx => ?_, fun x hx => by simp only [List.length_set, hsl]; exact hd.q64 x hx, by simp only [List.length_set, hsl]; exact hd.nn, hd.tr, hd.cp, hd.qb⟩
        · show hget _ r.l = _
          rw [hget_other (Ne.symm k1.sl), hget_rep, hst2]
          simp only [rRow, List.length_set, ← hv]; rfl
        · exact hget_put (by simp; have : ls < h2.length := hls; omega)
        · show hget _ r.lq = _
          rw [hget_other (k1.ql hq).2, hget_rep]; exact hqr
        · rcases List.mem_or_eq_of_mem_set hx with hx | hx
          · exact k1.s64 x hx
          · rw [hx, e1]; simp; omega
      have k4 : RFrame h r ((h2 ++ List.replicate 27 none).set ls (some (sRow ((lastS r.secs (r.q.take k)).set w.1.toNat (w.2.take t ++ s.drop (w.2.take t).length))))) { r with secs := (lastS r.secs (r.q.take k)).set w.1.toNat (w.2.take t ++ s.drop (w.2.take t).length), ls := ls } := by
        refine ⟨by have := k2.len; simp; omega, fun x hx ho => ?_, fun x hx => k2.new x hx⟩
        by_cases hxl : x = ls
        · subst hxl
          rcases k2.new x (.inr (.inl rfl)) with h1 | h1
          · exact absurd h1 ho
          · omega
        · rw [hget_other hxl, hget_rep, k2.old x hx ho]
      have hst3 := k3.st
      have hlt := hget_lt hst3
      refine VWrite.to (b' := rRow { r with secs := (lastS r.secs (r.q.take k)).set w.1.toNat (w.2.take t ++ s.drop (w.2.take t).length), ls := ls, q := [] }) hst3 (Nat.zero_le _) rfl rfl (by simp [rRow, splice, rqv]) ?_
      (conv => whnf)
      refine VWrite.to (b' := rRow { r with secs := (lastS r.secs (r.q.take k)).set w.1.toNat (w.2.take t ++ s.drop (w.2.take t).length), ls := ls, q := [], dark := false }) (hget_put hlt) (Nat.zero_le _) rfl rfl (by simp [rRow, splice, rqv]) ?_
      rw [List.set_set]
      (conv => whnf)
      refine VWrite.to (b' := rRow { r with secs := (lastS r.secs (r.q.take k)).set w.1.toNat (w.2.take t ++ s.drop (w.2.take t).length), ls := ls, q := [], dark := false, trip := -1 }) (hget_put hlt) (Nat.zero_le _) rfl rfl (by simp [rRow, splice, rqv]) ?_
      rw [List.set_set]
      (conv => whnf)
      refine done k3 k4 rfl rfl (by simp [hsl]) ?_
      simp only [AD.crash, ek]
      rw [show r.abs.q = r.q from rfl, hw]
      simp only
      rw [show (min (max torn 0) 64).toNat = t by omega, show r.q.take k = r.abs.q.take k from rfl, ← hfl, flatten_patch k1.s64 hs (by simp; omega)]
      rfl
    · (conv => whnf)
      refine VWrite.to (b' := rRow { r with secs := lastS r.secs (r.q.take k), ls := ls, q := [] }) hst2 (Nat.zero_le _) rfl rfl (by simp [rRow, splice, rqv]) ?_
      have hlt := hget_lt hst2
      (conv => whnf)
      refine VWrite.to (b' := rRow { r with secs := lastS r.secs (r.q.take k), ls := ls, q := [], dark := false }) (hget_put hlt) (Nat.zero_le _) rfl rfl (by simp [rRow, splice, rqv]) ?_
      rw [List.set_set]
      (conv => whnf)
      refine VWrite.to (b' := rRow { r with secs := lastS r.secs (r.q.take k), ls := ls, q := [], dark := false, trip := -1 }) (hget_put hlt) (Nat.zero_le _) rfl rfl (by simp [rRow, splice, rqv]) ?_
      rw [List.set_set]
      (conv => whnf)
      refine done k1 k2 rfl rfl hsl ?_
      simp only [AD.crash, ek]
      rw [show r.abs.q = r.q from rfl, List.getElem?_eq_none (by omega)]
      exact hfl
  · rw [hv]
    (conv => whnf)
    have e0 : (if (([] : List (List AVal)).length : Int) < if 0 > keep then 0 else keep then (([] : List (List AVal)).length : Int) else if 0 > keep then 0 else keep) = ((0 : Nat) : Int) := by simp only [List.length_nil]; omega
    rw [e0]
    refine lasts_ok hd (n := 0) (Nat.zero_le _) fun h2 ls k1 k2 => ?_
    (conv => whnf)
    have hst2 : hget h2 r.l = some ⟨[.own ls 0 (lastS r.secs (r.q.take 0)).length none, .lst true [], .int .i64 r.trip, .int .i64 r.cap, .bool r.dark], 41, false⟩ := by
      have := k1.st
      unfold rRow at this
      rw [show rqv { r with secs := lastS r.secs (r.q.take 0), ls := ls } = rqv r from rfl, hv] at this
      exact this
    refine VRow.of hst2 ?_
    (conv => whnf)
    refine VWrite.to (b' := rRow { r with secs := lastS r.secs (r.q.take 0), ls := ls, q := [] }) hst2 (Nat.zero_le _) rfl rfl (by simp [rRow, splice, rqv]) ?_
    have hlt := hget_lt hst2
    (conv => whnf)
    refine VWrite.to (b' := rRow { r with secs := lastS r.secs (r.q.take 0), ls := ls, q := [], dark := false }) (hget_put hlt) (Nat.zero_le _) rfl rfl (by simp [rRow, splice, rqv]) ?_
    rw [List.set_set]
    (conv => whnf)
    refine VWrite.to (b' := rRow { r with secs := lastS r.secs (r.q.take 0), ls := ls, q := [], dark := false, trip := -1 }) (hget_put hlt) (Nat.zero_le _) rfl rfl (by simp [rRow, splice, rqv]) ?_
    rw [List.set_set]
    (conv => whnf)
    refine done k1 k2 rfl rfl (lastS_len _ _) ?_
    simp only [AD.crash]
    rw [show r.abs.q = r.q from rfl, hn]
    simp [lastS, settledA, RD.abs]
end Go.Proofs.Ytcdjkpppfghkpaa
