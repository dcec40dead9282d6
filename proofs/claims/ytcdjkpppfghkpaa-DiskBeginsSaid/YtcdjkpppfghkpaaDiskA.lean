/-
  The disk, row by row: what its small functions answer, over the machine of values. (Contracts; no condition beyond what each says.)
-/
import Derived.Test.YtcdjkpppfghkpaaAbsV
import Derived.Test.YtcdjkpppfghkpaaChecked
set_option linter.unusedVariables false
namespace Go.Proofs.Ytcdjkpppfghkpaa
open Go Go.Abs Go.Proofs
def kindD : FuncId → Kind
  | 3 | 4 | 5 | 7 | 9 | 25 => .closed
  | 6 | 8 | 10 | 13 | 14 | 15 | 16 | 17 | 21 | 22 | 26 | 30 | 33 | 34 | 35 | 36 => .grow
  | _ => .full
noncomputable def CD : Cfg := ⟨Try.prog, kindD, fun _ => none⟩

/-- a write that waits: its sector, the row of its bytes, the bytes -/
structure QE where
  a : Int
  r : Nat
  b : List UInt8
structure DD where
  left : Int
  gone : Bool
  below : Int
  kept : List UInt8
  q : List QE
  n : Nat
  l : Nat
  lk : Nat
  lq : Nat

def qcells (q : List QE) : List AVal := q.flatMap fun x => [.int .i64 x.a, .own x.r 0 64 none]
def qval (d : DD) : AVal := match d.q with
  | [] => .lst true []
  | _ :: _ => .own d.lq 0 d.q.length none
def stRow (d : DD) : Blk := ⟨[.int .i64 d.left, .bool d.gone, .int .i64 d.below, .own d.lk 0 d.kept.length (some d.kept.length), qval d], 56, false⟩
def bRow (bs : List UInt8) (x : Bool) : Blk := ⟨bs.map ofByte, 5, x⟩
def own (d : DD) (x : Nat) : Prop := x = d.l ∨ x = d.lk ∨ (d.q ≠ [] ∧ x = d.lq) ∨ ∃ e, e ∈ d.q ∧ x = e.r

structure DAt (h : Heap) (d : DD) : Prop where
  st : hget h d.l = some (stRow d)
  kp : hget h d.lk = some (bRow d.kept false)
  qu : d.q ≠ [] → hget h d.lq = some ⟨qcells d.q, 64, true⟩
  en : ∀ x, x ∈ d.q → hget h x.r = some (bRow x.b true)
  el : ∀ x, x ∈ d.q → x.b.length = 64 ∧ 0 ≤ x.a ∧ x.a < d.n
  kl : d.l ≠ d.lk
  ql : d.q ≠ [] → d.lq ≠ d.l ∧ d.lq ≠ d.lk
  er : ∀ x, x ∈ d.q → x.r ≠ d.l ∧ x.r ≠ d.lk ∧ x.r ≠ d.lq
  sz : d.kept.length = 64 * d.n
  nn : 1 ≤ d.n ∧ d.n ≤ 4096
  lf : -1 ≤ d.left ∧ d.left < 9223372036854775808
  bl : -1 ≤ d.below ∧ d.below < 9223372036854775808
  qb : d.q.length ≤ 1048576

structure Frame (h : Heap) (d : DD) (h' : Heap) (d' : DD) : Prop where
  len : h.length ≤ h'.length
  old : ∀ x, x < h.length → ¬ own d x → hget h' x = hget h x
  new : ∀ x, own d' x → own d x ∨ h.length ≤ x

variable {base : Nat} {h : Heap} {L : LS} {d : DD} {K : AVal → Heap → LS → Prop}

theorem DAt.frame {h' : Heap} (hd : DAt h d) (hf : ∀ x, own d x → hget h' x = hget h x) : DAt h' d :=
  ⟨(hf _ (.inl rfl)).trans hd.st, (hf _ (.inr (.inl rfl))).trans hd.kp, fun hq => (hf _ (.inr (.inr (.inl ⟨hq, rfl⟩)))).trans (hd.qu hq), fun x hx => (hf _ (.inr (.inr (.inr ⟨x, hx, rfl⟩)))).trans (hd.en x hx), hd.el, hd.kl, hd.ql, hd.er, hd.sz, hd.nn, hd.lf, hd.bl, hd.qb⟩

theorem DAt.lt (hd : DAt h d) {x : Nat} (hx : own d x) : x < h.length := by
  rcases hx with rfl | rfl | ⟨hq, rfl⟩ | ⟨e, he, rfl⟩
  · exact hget_lt hd.st
  · exact hget_lt hd.kp
  · exact hget_lt (hd.qu hq)
  · exact hget_lt (hd.en e he)

theorem Frame.refl : Frame h d h d := ⟨Nat.le_refl _, fun _ _ _ => rfl, fun _ hx => .inl hx⟩
theorem Frame.trans {h' h'' : Heap} {d' d'' : DD} (f : Frame h d h' d') (g : Frame h' d' h'' d'') : Frame h d h'' d'' :=
  ⟨Nat.le_trans f.len g.len, fun x hx ho => by
    rw [g.old x (Nat.lt_of_lt_of_le hx f.len) (fun ho' => ?_), f.old x hx ho]
    rcases f.new x ho' with h1 | h1
    · exact ho h1
    · omega, fun x hx => by
    rcases g.new x hx with h1 | h1
    · exact f.new x h1
    · exact .inr (Nat.le_trans f.len h1)⟩

theorem sectors_ok (hd : DAt h d) (hk : K (.int .i64 d.n) h L) : VCall CD base 8 [.ptr (some (d.l, 0))] h L K := by
  refine VCall.grow (fn := Try.f8) Try.func8 rfl rfl ?_
  (conv => whnf)
  refine VRow.of hd.st ?_
  (conv => whnf)
  have := hd.sz
  have := hd.nn
  refine Kwrap.quo (by omega) (by omega) (by omega) ?_
  (conv => whnf)
  rw [show (d.kept.length : Int) / 64 = d.n by omega]
  exact hk

theorem sectors_nil (hk : K (.int .i64 0) h L) : VCall CD base 8 [.ptr none] h L K := by
  refine VCall.grow (fn := Try.f8) Try.func8 rfl rfl ?_
  (conv => whnf)
  exact hk

theorem has_ok (hd : DAt h d) (i : Int) (hk : K (.bool (decide (0 ≤ i ∧ i < d.n))) h L) : VCall CD base 33 [.ptr (some (d.l, 0)), .int .i64 i] h L K := by
  refine VCall.grow (fn := Try.f33) Try.func33 rfl rfl ?_
  (conv => whnf)
  refine Kcond.dec (fun h0 => ?_) (fun h0 => ?_)
  · (conv => whnf)
    refine sectors_ok hd ?_
    (conv => whnf)
    rw [show decide (0 ≤ i ∧ i < (d.n : Int)) = decide (i < (d.n : Int)) by simp; omega] at hk
    exact hk
  · (conv => whnf)
    rw [show decide (0 ≤ i ∧ i < (d.n : Int)) = false by simp; omega] at hk
    exact hk

theorem dark_ok (hd : DAt h d) (hk : K (.bool d.gone) h L) : VCall CD base 14 [.ptr (some (d.l, 0))] h L K := by
  refine VCall.grow (fn := Try.f14) Try.func14 rfl rfl ?_
  (conv => whnf)
  refine VRow.of hd.st ?_
  (conv => whnf)
  exact hk

theorem pending_ok (hd : DAt h d) (hk : K (.int .i64 d.q.length) h L) : VCall CD base 13 [.ptr (some (d.l, 0))] h L K := by
  refine VCall.grow (fn := Try.f13) Try.func13 rfl rfl ?_
  (conv => whnf)
  refine VRow.of hd.st ?_
  unfold stRow qval
  cases hq : d.q with
  | nil =>
    (conv => whnf)
    rw [hq] at hk; exact hk
  | cons x xs =>
    (conv => whnf)
    rw [hq] at hk; exact hk

theorem lasting_ok (hd : DAt h d) {i : Int} (h0 : 0 ≤ i) (h1 : i < d.n) (hk : K (.own d.lk (64 * i.toNat) 64 (some (d.kept.length - 64 * i.toNat))) h L) : VCall CD base 35 [.ptr (some (d.l, 0)), .int .i64 i] h L K := by
  refine VCall.grow (fn := Try.f35) Try.func35 rfl rfl ?_
  (conv => whnf)
  refine VRow.of hd.st ?_
  have := hd.sz
  have := hd.nn
  (conv => whnf)
  refine Kwrap.fit (by omega) ?_
  (conv => whnf)
  refine Kwrap.fit (by omega) ?_
  (conv => whnf)
  refine Kwrap.fit (by omega) ?_
  (conv => whnf)
  refine VIf.of (by simp <;> omega) ?_
  (conv => whnf)
  rw [show 64 * i.toNat = 0 + (i * 64).toNat * 1 by omega] at hk
  rw [show d.kept.length - (0 + (i * 64).toNat * 1) = d.kept.length - (i * 64).toNat by omega] at hk
  rw [show (64 : Nat) = ((i + 1) * 64).toNat - (i * 64).toNat by omega] at hk
  exact hk

theorem stRow_set (d : DD) (hd : DAt h d) {left below : Int} {gone : Bool} (hl : -1 ≤ left ∧ left < 9223372036854775808) (hb : -1 ≤ below ∧ below < 9223372036854775808) :
    DAt (h.set d.l (some (stRow { d with left := left, below := below, gone := gone }))) { d with left := left, below := below, gone := gone } ∧ Frame h d (h.set d.l (some (stRow { d with left := left, below := below, gone := gone }))) { d with left := left, below := below, gone := gone } := by
  have hlt := hget_lt hd.st
  refine ⟨⟨hget_put hlt, ?_, fun hq => ?_, fun x hx => ?_, hd.el, hd.kl, hd.ql, hd.er, hd.sz, hd.nn, hl, hb, hd.qb⟩, ⟨by simp, fun x hx ho => hget_other fun e => ho (.inl e), fun x hx => .inl hx⟩⟩
  · rw [hget_other (Ne.symm hd.kl)]; exact hd.kp
  · rw [hget_other (hd.ql hq).1]; exact hd.qu hq
  · rw [hget_other (hd.er x hx).1]; exact hd.en x hx

/-- whether an operation goes -/
def DD.went (d : DD) : DD := { d with gone := d.gone || d.left == 0, left := if -1 > d.left - 1 then -1 else d.left - 1 }

theorem max_neg1 (z : Int) : (if -1 > z then -1 else z) = max z (-1) := by omega

theorem goes_ok (hd : DAt h d) (hk : DAt (h.set d.l (some (stRow d.went))) d.went → Frame h d (h.set d.l (some (stRow d.went))) d.went → K (.bool !d.went.gone) (h.set d.l (some (stRow d.went))) L) : VCall CD 0 31 [.ptr (some (d.l, 0))] h L K := by
  have hlt := hget_lt hd.st
  have hlf := hd.lf
  obtain ⟨k1, k2⟩ := stRow_set d hd (left := d.went.left) (below := d.below) (gone := d.went.gone) (by unfold DD.went; simp only; split <;> omega) hd.bl
  have hk := hk k1 k2
  refine VCall.full (fn := Try.f31) Try.func31 rfl rfl ?_
  (conv => whnf)
  refine VRow.of hd.st ?_
  (conv => whnf)
  refine Kcond.by (fun hg => ?_) (fun hg => ?_)
  · (conv => whnf)
    refine VWrite.to (b' := stRow { d with gone := true }) hd.st (Nat.zero_le _) rfl rfl rfl ?_
    (conv => whnf)
    refine VRow.of (hget_put hlt) ?_
    (conv => whnf)
    refine Kwrap.fit (by dsimp only; omega) ?_
    (conv => whnf)
    refine VWrite.to (b' := stRow { d with gone := true, left := if -1 > d.left - 1 then -1 else d.left - 1 }) (hget_put hlt) (Nat.zero_le _) rfl rfl rfl ?_
    rw [List.set_set]
    (conv => whnf)
    refine VRow.of (hget_put hlt) ?_
    (conv => whnf)
    rw [show d.went = { d with gone := true, left := if -1 > d.left - 1 then -1 else d.left - 1 } by simp [DD.went, hg]] at hk
    exact hk
  · (conv => whnf)
    refine VRow.of hd.st ?_
    (conv => whnf)
    refine VWrite.to (b' := stRow { d with gone := d.left == 0 }) hd.st (Nat.zero_le _) rfl rfl rfl ?_
    (conv => whnf)
    refine VRow.of (hget_put hlt) ?_
    (conv => whnf)
    refine Kwrap.fit (by dsimp only; omega) ?_
    (conv => whnf)
    refine VWrite.to (b' := stRow { d with gone := d.left == 0, left := if -1 > d.left - 1 then -1 else d.left - 1 }) (hget_put hlt) (Nat.zero_le _) rfl rfl rfl ?_
    rw [List.set_set]
    (conv => whnf)
    refine VRow.of (hget_put hlt) ?_
    (conv => whnf)
    rw [show d.went = { d with gone := d.left == 0, left := if -1 > d.left - 1 then -1 else d.left - 1 } by simp [DD.went, hg]] at hk
    exact hk

theorem trip_ok (hd : DAt h d) (i : Int) (hi : i < 9223372036854775808) (hk : ∀ h', DAt h' { d with left := max i (-1) } → Frame h d h' { d with left := max i (-1) } → K (.tup []) h' L) : VCall CD 0 23 [.ptr (some (d.l, 0)), .int .i64 i] h L K := by
  have hn := hd.nn
  obtain ⟨k1, k2⟩ := stRow_set d hd (left := max i (-1)) (below := d.below) (gone := d.gone) (by omega) hd.bl
  refine VCall.full (fn := Try.f23) Try.func23 rfl rfl ?_
  (conv => whnf)
  refine sectors_ok hd ?_
  (conv => whnf)
  refine Kcond.dec (fun h0 => ?_) (fun h0 => absurd h0 (by omega))
  (conv => whnf)
  refine VWrite.to (b' := stRow { d with left := max i (-1) }) hd.st (Nat.zero_le _) rfl rfl (by rw [max_neg1]; rfl) ?_
  (conv => whnf)
  exact hk _ k1 k2

theorem cap_ok (hd : DAt h d) (i : Int) (hi : i < 9223372036854775808) (hk : ∀ h', DAt h' { d with below := max i (-1) } → Frame h d h' { d with below := max i (-1) } → K (.tup []) h' L) : VCall CD 0 24 [.ptr (some (d.l, 0)), .int .i64 i] h L K := by
  have hn := hd.nn
  obtain ⟨k1, k2⟩ := stRow_set d hd (left := d.left) (below := max i (-1)) (gone := d.gone) hd.lf (by omega)
  refine VCall.full (fn := Try.f24) Try.func24 rfl rfl ?_
  (conv => whnf)
  refine sectors_ok hd ?_
  (conv => whnf)
  refine Kcond.dec (fun h0 => ?_) (fun h0 => absurd h0 (by omega))
  (conv => whnf)
  refine VWrite.to (b' := stRow { d with below := max i (-1) }) hd.st (Nat.zero_le _) rfl rfl (by rw [max_neg1]; rfl) ?_
  (conv => whnf)
  exact hk _ k1 k2

/-- bytes, as a slice holds them -/
inductive Bytes (h : Heap) (bs : List UInt8) : AVal → Prop
  | own {l off : Nat} {cap : Option Nat} {b : Blk} : hget h l = some b → off + bs.length ≤ b.cells.length → (b.cells.drop off).take bs.length = bs.map ofByte → Bytes h bs (.own l off bs.length cap)
  | lst {n : Bool} : (n = true → bs = []) → Bytes h bs (.lst n (bs.map fun b => [ofByte b]))

theorem Bytes.frame {h' : Heap} {bs : List UInt8} {v : AVal} (hb : Bytes h bs v) (hf : ∀ l off n c, v = .own l off n c → hget h' l = hget h l) : Bytes h' bs v := by
  cases hb with
  | own h1 h2 h3 => exact .own ((hf _ _ _ _ rfl).trans h1) h2 h3
  | lst h1 => exact .lst h1

theorem flatten_one (bs : List UInt8) : (bs.map fun b => [ofByte b]).flatten = bs.map ofByte := by
  induction bs with
  | nil => rfl
  | cons b bs ih => simp [ih]

theorem Bytes.len {bs : List UInt8} {v : AVal} (hb : Bytes h bs v) : lenA v = some bs.length := by
  cases hb with
  | own _ _ _ => rfl
  | lst _ => simp [lenA]

theorem Bytes.src {bs : List UInt8} {v : AVal} (hb : Bytes h bs v) : srcCells h 1 bs.length v = some (bs.map ofByte) := by
  cases hb with
  | own h1 h2 h3 => simp only [srcCells, h1, Nat.le_refl, true_and, Nat.mul_one, h2, if_true, h3]
  | lst _ =>
    have ht : (bs.map fun b => [ofByte b]).take bs.length = bs.map fun b => [ofByte b] := List.take_of_length_le (by simp)
    simp only [srcCells, List.length_map, Nat.le_refl, true_and, ht, flatten_one]
    rw [if_pos (by simp [List.all_eq_true])]

/-- a copy of bytes, in a row of its own (nothing: no row is told) -/
theorem clone_ok {bs : List UInt8} {v : AVal} (hb : Bytes h bs v) (hne : bs ≠ []) (hlen : bs.length ≤ 1073741824) (hk : ∀ h' r, h.length ≤ r → hget h' r = some (bRow bs true) → h.length ≤ h'.length → (∀ x, x < h.length → hget h' x = hget h x) → K (.own r 0 bs.length none) h' L) :
    VCall CD base 30 [v] h L K := by
  refine VCall.grow (fn := Try.f30) Try.func30 rfl rfl ?_
  have hpos : bs.length ≠ 0 := fun h0 => hne (List.length_eq_zero_iff.1 h0)
  have go : ∀ {K' : AVal → Heap → Prop}, (∀ h' r, h.length ≤ r → hget h' r = some (bRow bs true) → h.length ≤ h'.length → (∀ x, x < h.length → hget h' x = hget h x) → K' (.own r 0 bs.length none) h') →
      VB CD.P (h ++ [some ⟨[], 5, false⟩]) h.length none .append [34, 34] [.own h.length 0 0 (some 0), v] K' := by
    intro K' hk
    have hb' : Bytes (h ++ [some ⟨[], 5, false⟩]) bs v := hb.frame fun l off n c e => by
      subst e
      cases hb with
      | own h1 _ _ => exact hget_old (hget_lt h1)
    refine VB.append (et := 5) (size := 1) (z := [.int .u8 0]) rfl rfl rfl rfl rfl hb'.len hb'.src ⟨_, _, appendA_grow (b := 1) (size := 1) (c := 0) (len := 0) (off := 0) rfl rfl hpos (by simp) (by simp [List.all_eq_true, ofByte, AVal.one]) (hget_new _ _) (by omega) (by simp) (by omega) (by simp), ?_⟩
    have := hk (h ++ [some ⟨[], 5, false⟩] ++ [some (bRow bs true)]) (h.length + 1) (by omega) ?_ (by simp <;> omega) ?_
    · simpa [bRow] using this
    · have := hget_new (h ++ [some ⟨[], 5, false⟩]) (some (bRow bs true))
      simpa using this
    · intro x hx
      rw [hget_old (by simp; omega), hget_old hx]
  cases hb with
  | @own l off cap b h1 h2 h3 =>
    (conv => whnf)
    refine VAlloc.new rfl ?_
    (conv => whnf)
    refine go fun h' r q1 q2 q3 q4 => ?_
    (conv => whnf)
    exact hk h' r q1 q2 q3 q4
  | @lst n h1 =>
    cases n with
    | true => exact absurd (h1 rfl) hne
    | false =>
      (conv => whnf)
      refine VAlloc.new rfl ?_
      (conv => whnf)
      refine go fun h' r q1 q2 q3 q4 => ?_
      (conv => whnf)
      exact hk h' r q1 q2 q3 q4
end Go.Proofs.Ytcdjkpppfghkpaa
