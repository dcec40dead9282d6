/-
  What lasts, cut into sectors.
-/
import Derived.Test.YtcdjkpppfghkpaaDiskP
set_option linter.unusedVariables false
set_option linter.unusedSimpArgs false
namespace Go.Proofs.Ytcdjkpppfghkpaa
open Go Go.Abs Go.Proofs

variable {base : Nat} {h : Heap} {L : LS} {d : DD} {r : RD} {K : AVal → Heap → LS → Prop}

def sec (k : List UInt8) (i : Nat) : List UInt8 := (k.drop (64 * i)).take 64
def cutS (k : List UInt8) (n : Nat) : List (List UInt8) := (List.range n).map (sec k)
theorem cutS_len (k : List UInt8) (n : Nat) : (cutS k n).length = n := by simp [cutS]
theorem cutS_succ (k : List UInt8) (n : Nat) : cutS k (n + 1) = cutS k n ++ [sec k n] := by simp [cutS, List.range_succ]
theorem cutS_at {k : List UInt8} {n i : Nat} (hi : i < n) : (cutS k n)[i]? = some (sec k i) := by simp [cutS, hi]

theorem split_ok (hd : DAt h d) (hk : ∀ h' l, h.length ≤ l → hget h' l = some (sRow (cutS d.kept d.n)) → h.length ≤ h'.length → (∀ x, x < h.length → hget h' x = hget h x) → K (.own l 0 d.n none) h' L) : VCall CD base 17 [.ptr (some (d.l, 0))] h L K := by
  refine VCall.grow (fn := Try.f17) Try.func17 rfl rfl ?_
  have hsz := hd.sz
  have hnn := hd.nn
  (conv => whnf)
  refine image_ok hd fun h1 ri i1 i2 i3 i4 => ?_
  have hil := hget_lt i2
  (conv => whnf)
  refine VLoop.invL (fun k e h' => ∃ e0 m sv, m + k = d.n ∧ e = put (put (put e0 3 sv) 4 (.own ri 0 d.kept.length none)) 5 (.int .i64 (64 * m : Nat)) ∧ h1.length ≤ h'.length ∧ (∀ x, x < h1.length → hget h' x = hget h1 x) ∧
      ((m = 0 ∧ sv = .lst true []) ∨ ∃ ls, m ≠ 0 ∧ sv = .own ls 0 m none ∧ h1.length ≤ ls ∧ hget h' ls = some (sRow (cutS d.kept m)))) ?_ (k := d.n)
    ⟨_, 0, _, by omega, put_eq3 rfl rfl rfl, Nat.le_refl _, fun _ _ => rfl, .inl ⟨rfl, rfl⟩⟩
  rintro k e h' ⟨e0, m, sv, k0, rfl, k1, k2, k4⟩
  (conv => whnf)
  refine Kwrap.fit (by omega) ?_
  (conv => whnf)
  refine Kcond.dec (fun hc => ?_) (fun hc => ?_)
  · have hsl : (sec d.kept m).length = 64 := by simp [sec]; omega
    have e1 : ((64 * m : Nat) : Int).toNat = 64 * m := by omega
    have e2 : (((64 * m : Nat) : Int) + 64).toNat = 64 * m + 64 := by omega
    rcases k4 with ⟨hm0, rfl⟩ | ⟨ls, m0, rfl, k5, k6⟩
    · (conv => whnf)
      refine Kwrap.fit (by omega) ?_
      (conv => whnf)
      refine VIf.of (by omega) ?_
      (conv => whnf)
      refine VRow.of ((k2 _ (by omega)).trans i2) ?_
      (conv => whnf)
      refine VIf.of (by simp [bRow]; omega) ?_
      (conv => whnf)
      refine VBytes.of (bs := sec d.kept m) (by rw [e1, e2, Nat.add_sub_cancel_left, Nat.zero_add, Nat.mul_one]; simp only [bRow, sec, List.map_take, List.map_drop]) ?_
      (conv => whnf)
      refine VAlloc.new rfl ?_
      (conv => whnf)
      refine VB.append (et := 9) (size := 1) (nn := 1) (z := [.str []]) (new := [.str (sec d.kept m)]) rfl rfl rfl rfl rfl rfl ?_ (appendV_nil (b := 16) (size := 1) rfl rfl (by omega) rfl rfl (by omega) ?_)
      · simp only [srcCells]
        rw [hget_new]
        rfl
      refine VAlloc.new rfl ?_
      (conv => whnf)
      refine Kwrap.fit (by omega) ?_
      (conv => whnf)
      refine ⟨rfl, k - 1, by omega, _, m + 1, _, by omega, put_eq3 rfl rfl ?_, by simp; omega, fun x hx => ?_, .inr ⟨_, by omega, congrArg (AVal.own _ 0 · none) (show 1 = m + 1 by omega), by simp; omega, (hget_new _ _).trans ?_⟩⟩
      · show AVal.int .i64 (((64 * m : Nat) : Int) + 64) = .int .i64 ((64 * (m + 1) : Nat) : Int)
        congr 1
      · rw [hget_old (by simp; omega), hget_old (by omega), k2 x hx]
      · subst hm0; rfl
    · have hls := hget_lt k6
      (conv => whnf)
      refine Kwrap.fit (by omega) ?_
      (conv => whnf)
      refine VIf.of (by omega) ?_
      (conv => whnf)
      refine VRow.of ((k2 _ (by omega)).trans i2) ?_
      (conv => whnf)
      refine VIf.of (by simp [bRow]; omega) ?_
      (conv => whnf)
      refine VBytes.of (bs := sec d.kept m) (by rw [e1, e2, Nat.add_sub_cancel_left, Nat.zero_add, Nat.mul_one]; simp only [bRow, sec, List.map_take, List.map_drop]) ?_
      (conv => whnf)
      refine VAlloc.new rfl ?_
      (conv => whnf)
      refine VB.append (et := 9) (size := 1) (nn := 1) (z := [.str []]) (new := [.str (sec d.kept m)]) rfl rfl rfl rfl rfl rfl ?_ (appendV_more (b := 16) (size := 1) (blk := sRow (cutS d.kept m)) rfl rfl (by omega) (by omega) rfl rfl ((hget_old (by omega)).trans k6) (by omega) (by simp [sRow, cutS_len]) rfl (by omega) ?_)
      · simp only [srcCells]
        rw [hget_new]
        rfl
      refine VAlloc.new (by simp [sRow, AVal.one, List.all_append]) ?_
      (conv => whnf)
      refine Kwrap.fit (by omega) ?_
      (conv => whnf)
      refine ⟨rfl, k - 1, by omega, _, m + 1, _, by omega, put_eq3 rfl rfl ?_, by simp; omega, fun x hx => ?_, .inr ⟨_, by omega, rfl, by simp; omega, (hget_new _ _).trans ?_⟩⟩
      · show AVal.int .i64 (((64 * m : Nat) : Int) + 64) = .int .i64 ((64 * (m + 1) : Nat) : Int)
        congr 1
      · rw [hget_old (by simp; omega), hget_other (by omega), hget_old (by omega), k2 x hx]
      · simp [sRow, cutS_succ]
  · (conv => whnf)
    have hm : m = d.n := by omega
    rcases k4 with ⟨rfl, rfl⟩ | ⟨ls, m0, rfl, k5, k6⟩
    · omega
    subst hm
    exact hk h' ls (by omega) k6 (by omega) fun x hx => by rw [k2 x (by omega), i4 x hx]
end Go.Proofs.Ytcdjkpppfghkpaa
