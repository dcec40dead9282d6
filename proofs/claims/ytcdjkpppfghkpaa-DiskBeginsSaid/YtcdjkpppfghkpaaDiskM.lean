/-
  The laws' own small functions: acts done to the document's disk; which acts are too many; a sector of one byte.
-/
import Derived.Test.YtcdjkpppfghkpaaDiskL
set_option linter.unusedVariables false
set_option linter.unusedSimpArgs false
namespace Go.Proofs.Ytcdjkpppfghkpaa
open Go Go.Abs Go.Proofs

variable {base : Nat} {h : Heap} {L : LS} {d : DD} {r : RD} {K : AVal → Heap → LS → Prop}

theorem meant_ok (hd : RAt h r) {x : ActD} (hx : ActOK x) (hq : r.q.length < 1048576) (hk : ∀ h' r', RAt h' r' → r'.l = r.l → r'.abs = (r.abs.did x).2 → RFrame h r h' r' → K (.tup [.str (r.abs.did x).1.1, .int .i64 (r.abs.did x).1.2]) h' L) : VCall CD 0 12 [.ptr (some (r.l, 0)), .agg x.cells] h L K := by
  refine VCall.full (fn := Try.f12) Try.func12 rfl rfl ?_
  have hl := hd.lt (.inl rfl)
  have hbx : Bytes h x.b (bytesV x.nil x.b) := .lst hx.nil
  have hxn := hx.n
  (conv => whnf)
  refine VAlloc.new rfl ?_
  obtain ⟨H, hH⟩ : ∃ H, H = h ++ [some (⟨[.int .i64 x.doo, .int .i64 x.n, .int .i64 x.m, .lst x.nil (x.b.map fun b => [ofByte b])], 36, false⟩ : Blk)] := ⟨_, rfl⟩
  have f1 : ∀ y, y < h.length → hget H y = hget h y := fun y hy => by rw [hH]; exact hget_old hy
  have Hl : H.length = h.length + 1 := by rw [hH]; simp
  have d1 : RAt H r := hd.grow f1
  have fr1 : RFrame h r H r := .grow (by omega) f1
  have row : hget H h.length = some (⟨[.int .i64 x.doo, .int .i64 x.n, .int .i64 x.m, .lst x.nil (x.b.map fun b => [ofByte b])], 36, false⟩ : Blk) := by rw [hH]; exact hget_new _ _
  rw [← hH]
  (conv => whnf)
  refine VRow.of row ?_
  (conv => whnf)
  refine Kcond.eqI (fun h0 => ?_) (fun h0 => ?_)
  · have e : r.abs.did x = (if 0 ≤ x.n ∧ x.n < r.secs.length then if r.dark then ([], 11) else (r.abs.read x.n, 0) else ([], 1), r.abs) := if_pos h0
    rw [e] at hk
    (conv => whnf)
    refine VRow.of row ?_
    (conv => whnf)
    refine rread_ok d1 x.n ?_
    (conv => whnf)
    have := hk _ _ d1 rfl rfl fr1
    by_cases c1 : 0 ≤ x.n ∧ x.n < r.secs.length
    · by_cases c2 : r.dark = true
      · simp only [if_pos c1, if_pos c2] at this ⊢; exact this
      · simp only [if_pos c1, if_neg c2] at this ⊢; exact this
    · simp only [if_neg c1] at this ⊢; exact this
  (conv => whnf)
  refine Kcond.eqI (fun h1 => ?_) (fun h1 => ?_)
  · have e : r.abs.did x = (([], (r.abs.write x.n x.b).1), (r.abs.write x.n x.b).2) := by unfold AD.did; rw [if_neg h0, if_pos h1]
    rw [e] at hk
    (conv => whnf)
    refine VRow.of row ?_
    (conv => whnf)
    refine VRow.of row ?_
    (conv => whnf)
    refine rwrite_ok d1 (bs := x.b) (.lst hx.nil) (fun l off n c e => by cases e) hq fun h' r' k1 k2 k3 k4 => ?_
    (conv => whnf)
    exact hk h' r' k1 k2 k3 (fr1.trans k4)
  (conv => whnf)
  refine Kcond.eqI (fun h2 => ?_) (fun h2 => ?_)
  · have e : r.abs.did x = (([], r.abs.sync.1), r.abs.sync.2) := by unfold AD.did; rw [if_neg h0, if_neg h1, if_pos h2]
    rw [e] at hk
    (conv => whnf)
    refine rsync_ok d1 fun h' d' k1 k2 k3 k4 => ?_
    (conv => whnf)
    exact hk h' d' k1 k2 k3 (fr1.trans k4)
  (conv => whnf)
  refine Kcond.eqI (fun h3 => ?_) (fun h3 => ?_)
  · have e : r.abs.did x = (([], 0), { r.abs with left := max x.n (-1) }) := by unfold AD.did; rw [if_neg h0, if_neg h1, if_neg h2, if_pos h3]
    rw [e] at hk
    obtain ⟨k1, k2⟩ := rRow_set r d1 (trip := max x.n (-1)) (cap := r.cap) (dark := r.dark) (by omega) hd.cp
    (conv => whnf)
    refine VRow.of row ?_
    (conv => whnf)
    refine VWrite.to (b' := rRow { r with trip := max x.n (-1) }) d1.st (Nat.zero_le _) rfl rfl (by rw [max_neg1]; rfl) ?_
    (conv => whnf)
    exact hk _ _ k1 rfl rfl (fr1.trans k2)
  (conv => whnf)
  refine Kcond.eqI (fun h4 => ?_) (fun h4 => ?_)
  · have e : r.abs.did x = (([], 0), { r.abs with below := max x.n (-1) }) := by unfold AD.did; rw [if_neg h0, if_neg h1, if_neg h2, if_neg h3, if_pos h4]
    rw [e] at hk
    obtain ⟨k1, k2⟩ := rRow_set r d1 (trip := r.trip) (cap := max x.n (-1)) (dark := r.dark) hd.tr (by omega)
    (conv => whnf)
    refine VRow.of row ?_
    (conv => whnf)
    refine VWrite.to (b' := rRow { r with cap := max x.n (-1) }) d1.st (Nat.zero_le _) rfl rfl (by rw [max_neg1]; rfl) ?_
    (conv => whnf)
    exact hk _ _ k1 rfl rfl (fr1.trans k2)
  (conv => whnf)
  refine Kcond.eqI (fun h5 => ?_) (fun h5 => ?_)
  · have e : r.abs.did x = (([], 0), r.abs.crash x.n x.m) := by unfold AD.did; rw [if_neg h0, if_neg h1, if_neg h2, if_neg h3, if_neg h4, if_pos h5]
    rw [e] at hk
    (conv => whnf)
    refine VRow.of row ?_
    (conv => whnf)
    refine VRow.of row ?_
    (conv => whnf)
    refine rcrash_ok d1 x.n x.m fun h' d' k1 k2 k3 k4 => ?_
    (conv => whnf)
    exact hk h' d' k1 k2 k3 (fr1.trans k4)
  · have e : r.abs.did x = (([], 0), r.abs) := by unfold AD.did; rw [if_neg h0, if_neg h1, if_neg h2, if_neg h3, if_neg h4, if_neg h5]
    rw [e] at hk
    (conv => whnf)
    exact hk _ _ d1 rfl rfl fr1

theorem acts_at {l : List ActD} {m : Nat} {w : ActD} (hw : l[m]? = some w) : (l.map ActD.cells)[m]? = some w.cells := by simp [hw]

theorem long_ok {l : List ActD} {n : Bool} (hn : n = true → l = []) (hlen : l.length < 9223372036854775808) (hk : ∀ b : Bool, (b = false → l.length ≤ 200 ∧ ∀ x, x ∈ l → x.b.length ≤ 200) → K (.bool b) h L) : VCall CD base 9 [.lst n (l.map ActD.cells)] h L K := by
  refine VCall.closed (fn := Try.f9) Try.func9 rfl rfl rfl ?_
  (conv => whnf)
  refine VLoop.still (fun k e => ∃ e0 m, m + k = l.length ∧ e = put (put e0 0 (.lst n (l.map ActD.cells))) 3 (.int .i64 m) ∧ ∀ j x, j < m → l[j]? = some x → x.b.length ≤ 200) ?_ (k := l.length) ⟨_, 0, by omega, put_eq2 rfl rfl, fun j x hj => by omega⟩
  rintro k e ⟨e0, m, hm, rfl, hsm⟩
  (conv => whnf)
  refine Kcond.dec (fun hc => ?_) (fun hc => ?_)
  · simp only [List.length_map] at hc
    (conv => whnf)
    refine Kcond.dec (fun h2 => ?_) (fun h2 => ?_)
    · obtain ⟨w, hw⟩ : ∃ w, l[m]? = some w := ⟨_, List.getElem?_eq_getElem (by omega)⟩
      (conv => whnf)
      refine VNth.of (by omega) (acts_at (by simpa using hw)) rfl ?_
      (conv => whnf)
      refine Kcond.dec (fun h3 => ?_) (fun h3 => ?_)
      · (conv => whnf)
        exact hk true (fun h => by cases h)
      · (conv => whnf)
        refine Kwrap.fit (by omega) ?_
        (conv => whnf)
        refine ⟨rfl, rfl, k - 1, by omega, _, m + 1, by omega, put_eq2 rfl rfl, fun j x hj hx => ?_⟩
        rcases Nat.lt_or_ge j m with h' | h'
        · exact hsm j x h' hx
        · have : j = m := by omega
          subst this
          rw [hw] at hx; cases hx
          simp at h3; omega
    · (conv => whnf)
      refine hk _ fun hb => absurd hb ?_
      simp; omega
  · (conv => whnf)
    simp only [List.length_map] at hc
    refine hk _ fun hb => ⟨by simp at hb; omega, fun x hx => ?_⟩
    obtain ⟨j, hj⟩ := List.getElem?_of_mem hx
    have := (List.getElem?_eq_some_iff.1 hj).1
    exact hsm j x (by omega) hj

/-- a sector of one byte -/
theorem full_ok {c : UInt8} (hk : ∀ h' r, h.length ≤ r → hget h' r = some (bRow (List.replicate 64 c) true) → h.length ≤ h'.length → (∀ x, x < h.length → hget h' x = hget h x) → K (.own r 0 64 none) h' L) : VCall CD base 22 [.int .u8 c.toNat] h L K := by
  refine VCall.grow (fn := Try.f22) Try.func22 rfl rfl ?_
  (conv => whnf)
  refine VLoop.invL (fun k e h' => ∃ e0 m v, m + k = 64 ∧ e = put (put (put e0 0 (.int .u8 c.toNat)) 3 v) 4 (.int .i64 m) ∧ h.length ≤ h'.length ∧ (∀ x, x < h.length → hget h' x = hget h x) ∧ ((m = 0 ∧ v = .lst true []) ∨ ∃ r, m ≠ 0 ∧ v = .own r 0 m none ∧ h.length ≤ r ∧ hget h' r = some (bRow (List.replicate m c) true))) ?_ (k := 64)
    ⟨_, 0, _, by omega, put_eq3 rfl rfl rfl, Nat.le_refl _, fun _ _ => rfl, .inl ⟨rfl, rfl⟩⟩
  rintro k e h' ⟨e0, m, v, hm, rfl, k1, k2, k3⟩
  (conv => whnf)
  refine Kcond.dec (fun hc => ?_) (fun hc => ?_)
  · rcases k3 with ⟨rfl, rfl⟩ | ⟨r, m0, rfl, k4, k5⟩
    · (conv => whnf)
      refine VAlloc.new rfl ?_
      (conv => whnf)
      refine VB.append (et := 5) (size := 1) (nn := 1) (z := [.int .u8 0]) (new := [ofByte c]) rfl rfl rfl rfl rfl rfl ?_ (appendV_nil (b := 1) (size := 1) rfl rfl (by omega) rfl rfl (by omega) ?_)
      · simp only [srcCells]
        rw [hget_new]
        rfl
      refine VAlloc.new rfl ?_
      (conv => whnf)
      refine Kwrap.fit (by omega) ?_
      (conv => whnf)
      refine ⟨rfl, k - 1, by omega, _, 1, _, by omega, put_eq3 rfl rfl rfl, by simp; omega, fun x hx => ?_, .inr ⟨_, by omega, rfl, by simp; omega, hget_new _ _⟩⟩
      rw [hget_old (by simp; omega), hget_old (by omega), k2 x hx]
    · have hr := hget_lt k5
      (conv => whnf)
      refine VAlloc.new rfl ?_
      (conv => whnf)
      refine VB.append (et := 5) (size := 1) (nn := 1) (z := [.int .u8 0]) (new := [ofByte c]) rfl rfl rfl rfl rfl rfl ?_ (appendV_more (b := 1) (size := 1) (blk := bRow (List.replicate m c) true) rfl rfl (by omega) (by omega) rfl rfl ((hget_old hr).trans k5) (by omega) (by simp [bRow]) rfl (by omega) ?_)
      · simp only [srcCells]
        rw [hget_new]
        rfl
      refine VAlloc.new (by simp [bRow, List.all_append, AVal.one, ofByte]) ?_
      (conv => whnf)
      refine Kwrap.fit (by omega) ?_
      (conv => whnf)
      refine ⟨rfl, k - 1, by omega, _, m + 1, _, by omega, put_eq3 rfl rfl rfl, by simp; omega, fun x hx => ?_, .inr ⟨_, by omega, rfl, by simp; omega, ?_⟩⟩
      · rw [hget_old (by simp; omega), hget_other (by omega), hget_old (by omega), k2 x hx]
      · rw [hget_new]
        simp [bRow, List.replicate_succ']
  · have hm : m = 64 := by omega
    subst hm
    rcases k3 with ⟨h0, _⟩ | ⟨r, m0, rfl, k4, k5⟩
    · omega
    (conv => whnf)
    exact hk h' r k4 k5 k1 k2
end Go.Proofs.Ytcdjkpppfghkpaa
