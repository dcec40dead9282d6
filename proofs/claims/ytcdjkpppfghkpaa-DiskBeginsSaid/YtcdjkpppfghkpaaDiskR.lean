/-
  The document's disk, row by row.
-/
import Derived.Test.YtcdjkpppfghkpaaDiskE
set_option linter.unusedVariables false
set_option linter.unusedSimpArgs false
namespace Go.Proofs.Ytcdjkpppfghkpaa
open Go Go.Abs Go.Proofs

variable {base : Nat} {h : Heap} {L : LS} {K : AVal → Heap → LS → Prop}

structure RD where
  secs : List (List UInt8)
  q : List (Int × List UInt8)
  trip : Int
  cap : Int
  dark : Bool
  l : Nat
  ls : Nat
  lq : Nat
def rcells (q : List (Int × List UInt8)) : List AVal := q.flatMap fun x => [.int .i64 x.1, .str x.2]
def rqv (r : RD) : AVal := match r.q with
  | [] => .lst true []
  | _ :: _ => .own r.lq 0 r.q.length none
def rRow (r : RD) : Blk := ⟨[.own r.ls 0 r.secs.length none, rqv r, .int .i64 r.trip, .int .i64 r.cap, .bool r.dark], 41, false⟩
def ownR (r : RD) (x : Nat) : Prop := x = r.l ∨ x = r.ls ∨ (r.q ≠ [] ∧ x = r.lq)
def sRow (s : List (List UInt8)) : Blk := ⟨s.map .str, 9, true⟩
structure RAt (h : Heap) (r : RD) : Prop where
  st : hget h r.l = some (rRow r)
  sc : hget h r.ls = some (sRow r.secs)
  qu : r.q ≠ [] → hget h r.lq = some ⟨rcells r.q, 71, true⟩
  sl : r.ls ≠ r.l
  ql : r.q ≠ [] → r.lq ≠ r.l ∧ r.lq ≠ r.ls
  s64 : ∀ x, x ∈ r.secs → x.length = 64
  q64 : ∀ x, x ∈ r.q → x.2.length = 64 ∧ 0 ≤ x.1 ∧ x.1 < r.secs.length
  nn : 1 ≤ r.secs.length ∧ r.secs.length ≤ 4096
  tr : -1 ≤ r.trip ∧ r.trip < 9223372036854775808
  cp : -1 ≤ r.cap ∧ r.cap < 9223372036854775808
  qb : r.q.length ≤ 1048576
def RD.abs (r : RD) : AD := ⟨r.trip, r.dark, r.cap, r.secs.flatten, r.q, r.secs.length⟩
structure RFrame (h : Heap) (d : RD) (h' : Heap) (d' : RD) : Prop where
  len : h.length ≤ h'.length
  old : ∀ x, x < h.length → ¬ ownR d x → hget h' x = hget h x
  new : ∀ x, ownR d' x → ownR d x ∨ h.length ≤ x

variable {r : RD}
theorem RAt.frame {h' : Heap} (hd : RAt h r) (hf : ∀ x, ownR r x → hget h' x = hget h x) : RAt h' r :=
  ⟨(hf _ (.inl rfl)).trans hd.st, (hf _ (.inr (.inl rfl))).trans hd.sc, fun hq => (hf _ (.inr (.inr ⟨hq, rfl⟩))).trans (hd.qu hq), hd.sl, hd.ql, hd.s64, hd.q64, hd.nn, hd.tr, hd.cp, hd.qb⟩
theorem RAt.lt (hd : RAt h r) {x : Nat} (hx : ownR r x) : x < h.length := by
  rcases hx with rfl | rfl | ⟨hq, rfl⟩
  · exact hget_lt hd.st
  · exact hget_lt hd.sc
  · exact hget_lt (hd.qu hq)
theorem RFrame.refl : RFrame h r h r := ⟨Nat.le_refl _, fun _ _ _ => rfl, fun _ hx => .inl hx⟩
theorem RFrame.trans {h' h'' : Heap} {d' d'' : RD} (f : RFrame h r h' d') (g : RFrame h' d' h'' d'') : RFrame h r h'' d'' :=
  ⟨Nat.le_trans f.len g.len, fun x hx ho => by
    rw [g.old x (Nat.lt_of_lt_of_le hx f.len) (fun ho' => ?_), f.old x hx ho]
    rcases f.new x ho' with h1 | h1
    · exact ho h1
    · omega, fun x hx => by
    rcases g.new x hx with h1 | h1
    · exact f.new x h1
    · exact .inr (Nat.le_trans f.len h1)⟩

theorem flatten_len {s : List (List UInt8)} (hs : ∀ x, x ∈ s → x.length = 64) : s.flatten.length = 64 * s.length := by
  induction s with
  | nil => rfl
  | cons x s ih =>
    have := ih fun y hy => hs y (List.mem_cons_of_mem _ hy)
    have := hs x (List.mem_cons_self ..)
    simp only [List.flatten_cons, List.length_append, List.length_cons]; omega

/-- a sector of all -/
theorem flatten_sector {s : List (List UInt8)} {k : Nat} {x : List UInt8} (hs : ∀ x, x ∈ s → x.length = 64) (hk : s[k]? = some x) : (s.flatten.drop (64 * k)).take 64 = x := by
  induction s generalizing k with
  | nil => simp at hk
  | cons y s ih =>
    have hy := hs y (List.mem_cons_self ..)
    cases k with
    | zero =>
      simp at hk; subst hk
      rw [List.flatten_cons, Nat.mul_zero, List.drop_zero, ← hy, List.take_left]
    | succ k =>
      simp at hk
      rw [List.flatten_cons, show 64 * (k + 1) = y.length + 64 * k by omega, ← List.drop_drop, List.drop_left]
      exact ih (fun z hz => hs z (List.mem_cons_of_mem _ hz)) hk

theorem flatten_patch {s : List (List UInt8)} {k : Nat} {x b : List UInt8} (hs : ∀ x, x ∈ s → x.length = 64) (hk : s[k]? = some x) (hb : b.length ≤ 64) : patch s.flatten (64 * k) b = (s.set k (b ++ x.drop b.length)).flatten := by
  induction s generalizing k with
  | nil => simp at hk
  | cons y s ih =>
    have hy := hs y (List.mem_cons_self ..)
    cases k with
    | zero =>
      simp at hk; subst hk
      simp only [patch, List.flatten_cons, List.set_cons_zero, Nat.mul_zero, List.take_zero, List.nil_append, Nat.zero_add, List.append_assoc]
      rw [List.drop_append_of_le_length (by omega)]
    | succ k =>
      simp at hk
      have := ih (fun z hz => hs z (List.mem_cons_of_mem _ hz)) hk
      simp only [List.flatten_cons, List.set_cons_succ, ← this]
      simp only [patch]
      rw [show 64 * (k + 1) = y.length + 64 * k by omega, List.take_append, List.take_of_length_le (by omega), show y.length + 64 * k - y.length = 64 * k by omega, Nat.add_assoc, ← List.drop_drop (i := 64 * k + b.length) (j := y.length), List.drop_left]
      simp

theorem rRow_set (r : RD) (hd : RAt h r) {trip cap : Int} {dark : Bool} (hl : -1 ≤ trip ∧ trip < 9223372036854775808) (hb : -1 ≤ cap ∧ cap < 9223372036854775808) :
    RAt (h.set r.l (some (rRow { r with trip := trip, cap := cap, dark := dark }))) { r with trip := trip, cap := cap, dark := dark } ∧ RFrame h r (h.set r.l (some (rRow { r with trip := trip, cap := cap, dark := dark }))) { r with trip := trip, cap := cap, dark := dark } := by
  have hlt := hget_lt hd.st
  refine ⟨⟨hget_put hlt, ?_, fun hq => ?_, hd.sl, hd.ql, hd.s64, hd.q64, hd.nn, hl, hb, hd.qb⟩, ⟨by simp, fun x hx ho => hget_other fun e => ho (.inl e), fun x hx => .inl hx⟩⟩
  · rw [hget_other hd.sl]; exact hd.sc
  · rw [hget_other (hd.ql hq).1]; exact hd.qu hq

def RD.went (r : RD) : RD := { r with dark := r.dark || r.trip == 0, trip := if -1 > r.trip - 1 then -1 else r.trip - 1 }
theorem rwent_abs (r : RD) : r.went.abs = r.abs.went := rfl

theorem power_ok (hd : RAt h r) (hk : RAt (h.set r.l (some (rRow r.went))) r.went → RFrame h r (h.set r.l (some (rRow r.went))) r.went → K (.bool !r.went.dark) (h.set r.l (some (rRow r.went))) L) : VCall CD 0 37 [.ptr (some (r.l, 0))] h L K := by
  have hlt := hget_lt hd.st
  have hlf := hd.tr
  obtain ⟨k1, k2⟩ := rRow_set r hd (trip := r.went.trip) (cap := r.cap) (dark := r.went.dark) (by unfold RD.went; simp only; split <;> omega) hd.cp
  have hk := hk k1 k2
  refine VCall.full (fn := Try.f37) Try.func37 rfl rfl ?_
  (conv => whnf)
  refine VRow.of hd.st ?_
  (conv => whnf)
  refine Kcond.eqI (fun hg => ?_) (fun hg => ?_)
  · (conv => whnf)
    refine VWrite.to (b' := rRow { r with dark := true }) hd.st (Nat.zero_le _) rfl rfl rfl ?_
    (conv => whnf)
    refine VRow.of (hget_put hlt) ?_
    (conv => whnf)
    refine Kwrap.fit (by dsimp only; omega) ?_
    (conv => whnf)
    refine VWrite.to (b' := rRow { r with dark := true, trip := if -1 > r.trip - 1 then -1 else r.trip - 1 }) (hget_put hlt) (Nat.zero_le _) rfl rfl rfl ?_
    rw [List.set_set]
    (conv => whnf)
    refine VRow.of (hget_put hlt) ?_
    (conv => whnf)
    rw [show r.went = { r with dark := true, trip := if -1 > r.trip - 1 then -1 else r.trip - 1 } by simp [RD.went, hg]] at hk
    exact hk
  · (conv => whnf)
    refine VRow.of hd.st ?_
    (conv => whnf)
    refine Kwrap.fit (by omega) ?_
    (conv => whnf)
    refine VWrite.to (b' := rRow { r with trip := if -1 > r.trip - 1 then -1 else r.trip - 1 }) hd.st (Nat.zero_le _) rfl rfl rfl ?_
    (conv => whnf)
    refine VRow.of (hget_put hlt) ?_
    (conv => whnf)
    rw [show r.went = { r with trip := if -1 > r.trip - 1 then -1 else r.trip - 1 } by simp [RD.went, hg]] at hk
    exact hk

def zsec : List UInt8 := List.replicate 64 0
theorem nought_ok (hk : K (.str zsec) h L) : VCall CD base 25 [] h L K := by
  refine VCall.closed (fn := Try.f25) Try.func25 rfl rfl rfl ?_
  (conv => whnf)
  refine VIf.of ⟨by omega, by omega, by omega, by omega⟩ ?_
  (conv => whnf)
  refine VAlloc.new rfl ?_
  (conv => whnf)
  refine VRow.of (hget_new _ _) ?_
  (conv => whnf)
  refine VIf.of (by decide) ?_
  (conv => whnf)
  refine VBytes.of (bs := zsec) rfl ?_
  (conv => whnf)
  exact hk

theorem rnew_ok {n : Nat} (hn : 1 ≤ n ∧ n ≤ 4096) (hk : ∀ h' r, RAt h' r → r.abs = (DD.fresh n 0 0).abs → h.length ≤ h'.length → (∀ x, ownR r x → h.length ≤ x) → (∀ x, x < h.length → hget h' x = hget h x) → K (.ptr (some (r.l, 0))) h' L) : VCall CD base 10 [.int .i64 n] h L K := by
  refine VCall.grow (fn := Try.f10) Try.func10 rfl rfl ?_
  (conv => whnf)
  refine Kcond.dec (fun h0 => absurd h0 (by omega)) (fun h0 => ?_)
  (conv => whnf)
  refine Kcond.dec (fun h1 => absurd h1 (by omega)) (fun h1 => ?_)
  (conv => whnf)
  refine VAlloc.new rfl ?_
  (conv => whnf)
  refine VLoop.invL (fun k e h' => ∃ e0 m sv, m + k = n ∧ e = put (put (put e0 0 (.int .i64 n)) 3 (.ptr (some (h.length, 0)))) 4 (.int .i64 m) ∧ h.length + 1 ≤ h'.length ∧ (∀ x, x < h.length → hget h' x = hget h x) ∧
      hget h' h.length = some ⟨[sv, .lst true [], .int .i64 (-1), .int .i64 (-1), .bool false], 41, false⟩ ∧ ((m = 0 ∧ sv = .lst true []) ∨ ∃ ls, m ≠ 0 ∧ sv = .own ls 0 m none ∧ h.length < ls ∧ hget h' ls = some (sRow (List.replicate m zsec)))) ?_ (k := n)
    ⟨_, 0, _, by omega, put_eq3 rfl rfl rfl, by simp, fun x hx => hget_old hx, hget_new _ _, .inl ⟨rfl, rfl⟩⟩
  rintro k e h' ⟨e0, m, sv, k0, rfl, k1, k2, k3, k4⟩
  (conv => whnf)
  refine Kcond.dec (fun hc => ?_) (fun hc => ?_)
  · (conv => whnf)
    refine VIf.of (by decide +kernel) ?_
    (conv => whnf)
    refine VIf.of (fun h0 => absurd h0 (by omega)) ?_
    (conv => whnf)
    rcases k4 with ⟨rfl, rfl⟩ | ⟨ls, m0, rfl, k5, k6⟩
    · refine VRow.of ((hget_rep _ _ _).trans k3) ?_
      (conv => whnf)
      refine VIf.of (by simp; omega) ?_
      (conv => whnf)
      refine nought_ok ?_
      (conv => whnf)
      refine VAlloc.at rfl (rep_at _ _ _ (by omega)) ?_
      (conv => whnf)
      refine VRow.of (hget_put (by simp)) ?_
      (conv => whnf)
      refine VB.append (et := 9) (size := 1) (nn := 1) (z := [.str []]) (new := [.str zsec]) rfl rfl rfl rfl rfl rfl ?_ (appendV_nil (b := 16) (size := 1) rfl rfl (by omega) rfl rfl (by omega) ?_)
      · simp only [srcCells]
        rw [hget_put (by simp)]
        rfl
      refine VAlloc.at rfl (at_none (by simp) ?_) ?_
      · rw [hget_other (by omega), hget_rep, hget_out (by omega)]
      (conv => whnf)
      refine VWrite.to (b' := ⟨[.own (h'.length + 7) 0 1 none, .lst true [], .int .i64 (-1), .int .i64 (-1), .bool false], 41, false⟩) ((hget_other (by omega)).trans ((hget_other (by omega)).trans ((hget_rep _ _ _).trans k3))) (by omega) rfl rfl rfl ?_
      (conv => whnf)
      refine Kwrap.fit (by omega) ?_
      (conv => whnf)
      refine ⟨rfl, n - 1, by omega, _, 1, _, by omega, put_eq3 rfl rfl rfl, by simp; omega, fun x hx => ?_, hget_put (by simp; omega), .inr ⟨h'.length + 7, by omega, rfl, by omega, ?_⟩⟩
      · rw [hget_other (by omega), hget_other (by omega), hget_other (by omega), hget_rep, k2 x hx]
      · rw [hget_other (by omega), hget_put (by simp)]; rfl
    · refine VRow.of ((hget_rep _ _ _).trans k3) ?_
      (conv => whnf)
      refine VIf.of (by simp; omega) ?_
      (conv => whnf)
      refine nought_ok ?_
      (conv => whnf)
      have hls := hget_lt k6
      refine VAlloc.at rfl (rep_at _ _ _ (by omega)) ?_
      (conv => whnf)
      refine VRow.of (hget_put (by simp)) ?_
      (conv => whnf)
      refine VB.append (et := 9) (size := 1) (nn := 1) (z := [.str []]) (new := [.str zsec]) rfl rfl rfl rfl rfl rfl ?_ (appendV_more (b := 16) (size := 1) (blk := sRow (List.replicate m zsec)) rfl rfl (by omega) (by omega) rfl rfl ((hget_other (by omega)).trans ((hget_rep _ _ _).trans k6)) (by omega) (by simp [sRow]) rfl (by omega) ?_)
      · simp only [srcCells]
        rw [hget_put (by simp)]
        rfl
      refine VAlloc.at (by simp [sRow, AVal.one, List.all_append]) (at_none (by simp) ?_) ?_
      · rw [hget_other (by omega), hget_other (by omega), hget_rep, hget_out (by omega)]
      (conv => whnf)
      refine VWrite.to (b' := ⟨[.own (h'.length + 7) 0 (m + 1) none, .lst true [], .int .i64 (-1), .int .i64 (-1), .bool false], 41, false⟩) ((hget_other (by omega)).trans ((hget_other (by omega)).trans ((hget_other (by omega)).trans ((hget_rep _ _ _).trans k3)))) (by omega) rfl rfl rfl ?_
      (conv => whnf)
      refine Kwrap.fit (by omega) ?_
      (conv => whnf)
      refine ⟨rfl, k - 1, by omega, _, m + 1, _, by omega, put_eq3 rfl rfl rfl, by simp; omega, fun x hx => ?_, hget_put (by simp; omega), .inr ⟨h'.length + 7, by omega, rfl, by omega, ?_⟩⟩
      · rw [hget_other (by omega), hget_other (by omega), hget_other (by omega), hget_other (by omega), hget_rep, k2 x hx]
      · rw [hget_other (by omega), hget_put (by simp)]
        simp [sRow, List.replicate_succ']
  · (conv => whnf)
    have hm : m = n := by omega
    subst hm
    rcases k4 with ⟨h0, _⟩ | ⟨ls, m0, rfl, k5, k6⟩
    · omega
    refine hk h' ⟨List.replicate m zsec, [], -1, -1, false, h.length, ls, 0⟩ ?_ ?_ (by omega) ?_ k2
    · constructor
      · simpa [rRow, rqv] using k3
      · exact k6
      · intro hq; exact absurd rfl hq
      · simp only; omega
      · intro hq; exact absurd rfl hq
      · intro x hx; rw [(List.mem_replicate.1 hx).2]; rfl
      · intro x hx; cases hx
      · simp; omega
      · simp
      · simp
      · simp
    · simp only [RD.abs, DD.abs, DD.fresh, List.map_nil, List.length_replicate, AD.mk.injEq, true_and, and_true]
      clear k6 hn hk k5 m0 k3 k2 k1 h0 h1 hc k0
      induction m with
      | zero => rfl
      | succ m ih => rw [List.replicate_succ, List.flatten_cons, ih, zsec, List.replicate_append_replicate]; congr 1; omega
    · intro x hx
      rcases hx with rfl | rfl | ⟨hq, _⟩
      · exact Nat.le_refl _
      · exact Nat.le_of_lt k5
      · exact absurd rfl hq
end Go.Proofs.Ytcdjkpppfghkpaa
