/-
  The chapter's examples hold.
-/
import Derived.Test.YtcdjkpppfghkpaaDiskM
set_option linter.unusedVariables false
set_option linter.unusedSimpArgs false
namespace Go.Proofs.Ytcdjkpppfghkpaa
open Go Go.Abs Go.Proofs

variable {base : Nat} {h : Heap} {L : LS} {d : DD} {r : RD} {K : AVal → Heap → LS → Prop}

theorem new_bad {n : Int} (hn : n < 1 ∨ n > 4096) (hk : K (.tup [.ptr none, .int .i64 1]) h L) : VCall CD base 6 [.int .i64 n] h L K := by
  refine VCall.grow (fn := Try.f6) Try.func6 rfl rfl ?_
  (conv => whnf)
  refine Kcond.dec (fun h0 => ?_) (fun h0 => ?_)
  · (conv => whnf)
    exact hk
  · (conv => whnf)
    refine Kcond.dec (fun h1 => ?_) (fun h1 => absurd hn (by omega))
    (conv => whnf)
    exact hk

theorem row_bytes {bs : List UInt8} {x : Bool} {l : Nat} (hg : hget h l = some (bRow bs x)) {n : Nat} (hn : bs.length = n) {cap : Option Nat} : Bytes h bs (.own l 0 n cap) := by
  subst hn
  exact .own hg (by simp [bRow]) (by simp only [bRow, List.drop_zero]; exact take_map_len _)

def X64 (c : UInt8) : List UInt8 := List.replicate 64 c
def a0 : AD := (DD.fresh 3 0 0).abs
def a1 : AD := (a0.write 0 (X64 120)).2
def a2 : AD := (a1.write 1 (X64 121)).2
def a3 : AD := a2.crash 1 3
def a4 : AD := { a3 with left := 1 }
def a5 : AD := (a4.write 0 (X64 122)).2
def a6 : AD := a5.sync.2
def a7 : AD := a6.crash 0 0
def a8 : AD := { a7 with below := 2 }
def a9 : AD := (a8.write 1 (X64 122)).2
def a10 : AD := (a9.write 2 (X64 122)).2
theorem v1 : (a0.write 0 (X64 120)).1 = 0 := by decide +kernel
theorem v2 : (a1.write 1 (X64 121)).1 = 0 := by decide +kernel
theorem v3 : a2.read 0 = X64 120 := by decide +kernel
theorem v4 : a3.read 0 = X64 120 := by decide +kernel
theorem v5 : (a3.read 1).length = 64 ∧ (a3.read 1).take 4 = [121, 121, 121, 0] := by decide +kernel
theorem v6 : (a4.write 0 (X64 122)).1 = 0 := by decide +kernel
theorem v7 : a5.sync.1 = 11 := by decide +kernel
theorem v8 : a6.gone = true := by decide +kernel
theorem v9 : a8.gone = false := by decide +kernel
theorem v10 : (a8.write 1 (X64 122)).1 = 0 := by decide +kernel
theorem v11 : (a9.write 2 (X64 122)).1 = 7 := by decide +kernel
theorem v12 : (a10.write 3 (X64 122)).1 = 1 := by decide +kernel

theorem full_X {c : UInt8} (hk : ∀ h' r, h.length ≤ r → hget h' r = some (bRow (X64 c) true) → h.length ≤ h'.length → (∀ x, x < h.length → hget h' x = hget h x) → K (.own r 0 64 none) h' L) : VCall CD base 22 [.int .u8 c.toNat] h L K := full_ok hk
theorem X64_len (c : UInt8) : (X64 c).length = 64 := by simp [X64]
theorem X64_take (c : UInt8) : ((X64 c).map ofByte).take 64 = (X64 c).map ofByte := List.take_of_length_le (by simp [X64])
attribute [local irreducible] X64
theorem qlen_abs (d : DD) : d.q.length = d.abs.q.length := by simp [DD.abs]

set_option maxRecDepth 40000 in
theorem awake_ok (hk : K (.bool true) h L) : VCall CD base 7 [] h L K := by
  refine VCall.closed (fn := Try.f7) Try.func7 rfl rfl rfl ?_
  (conv => whnf)
  refine new_ok (n := 3) (by omega) fun h1 l lk hd0 _ _ _ _ => ?_
  have ea0 : (DD.fresh 3 l lk).abs = a0 := rfl
  have el : (DD.fresh 3 l lk).l = l := rfl
  generalize DD.fresh 3 l lk = d0 at hd0 ea0 el
  (conv => whnf)
  refine new_bad (.inl (by omega)) ?_
  (conv => whnf)
  subst el
  refine full_X (c := 120) fun h21 rr1 b11 b21 b31 b41 => ?_
  (conv => whnf)
  refine write_ok (hd0.grow b41) (i := 0) (bs := X64 120) (row_bytes b21 (X64_len _)) (fun l off n c e ho => by simp at e; have := hd0.lt ho; omega) (by rw [qlen_abs, ea0]; decide +kernel) fun h1 d1 hd1 k21 ea1 k41 => ?_
  rw [ea0] at ea1 ⊢
  rw [v1]
  rw [← k21]
  have ea1 : d1.abs = a1 := ea1
  (conv => whnf)
  refine full_X (c := 121) fun h22 rr2 b12 b22 b32 b42 => ?_
  (conv => whnf)
  refine write_ok (hd1.grow b42) (i := 1) (bs := X64 121) (row_bytes b22 (X64_len _)) (fun l off n c e ho => by simp at e; have := hd1.lt ho; omega) (by rw [qlen_abs, ea1]; decide +kernel) fun h2 d2 hd2 k22 ea2 k42 => ?_
  rw [ea1] at ea2 ⊢
  rw [v2]
  rw [← k22]
  have ea2 : d2.abs = a2 := ea2
  (conv => whnf)
  -- what is read
  have n2 : d2.n = 3 := (congrArg AD.n ea2).trans (by decide +kernel)
  have g2 : d2.gone = false := (congrArg AD.gone ea2).trans (by decide +kernel)
  refine read_ok hd2 (fun hA ra _ _ ra1 ra2 ra3 ra4 => ?_) (fun hno => absurd ⟨by omega, by rw [n2]; omega⟩ hno) (fun _ hg => by rw [g2] at hg; cases hg)
  rw [ea2, v3] at ra2
  (conv => whnf)
  refine crash_ok (hd2.grow ra4) 1 3 fun h3 d3 hd3 k23 ea3 k43 => ?_
  rw [ea2] at ea3
  have ea3 : d3.abs = a3 := ea3
  rw [← k23]
  have na : ¬ own d2 ra := fun ho => by have := hd2.lt ho; omega
  have ra5 : hget h3 ra = some (bRow (X64 120) true) := (k43.old _ (hget_lt ra2) na).trans ra2
  have na3 : ¬ own d3 ra := fun ho => by
    rcases k43.new _ ho with h1 | h1
    · exact na h1
    · have := hget_lt ra2; omega
  (conv => whnf)
  have n3 : d3.n = 3 := (congrArg AD.n ea3).trans (by decide +kernel)
  have g3 : d3.gone = false := (congrArg AD.gone ea3).trans (by decide +kernel)
  refine read_ok hd3 (fun hB rb _ _ rb1 rb2 rb3 rb4 => ?_) (fun hno => absurd ⟨by omega, by rw [n3]; omega⟩ hno) (fun _ hg => by rw [g3] at hg; cases hg)
  rw [ea3, v4] at rb2
  (conv => whnf)
  refine read_ok (hd3.grow rb4) (fun hC rc _ _ rc1 rc2 rc3 rc4 => ?_) (fun hno => absurd ⟨by omega, by rw [n3]; omega⟩ hno) (fun _ hg => by rw [g3] at hg; cases hg)
  rw [ea3] at rc2
  have la := hget_lt ra5
  have lb := hget_lt rb2
  have lc := hget_lt rc2
  have rowA : hget hC ra = some (bRow (X64 120) true) := by rw [rc4 _ (by omega), rb4 _ (by omega), ra5]
  have rowB : hget hC rb = some (bRow (X64 120) true) := by rw [rc4 _ (by omega), rb2]
  have hdC : DAt hC d3 := hd3.grow fun y hy => by rw [rc4 y (by omega), rb4 y hy]
  (conv => whnf)
  refine VIf.of (by decide +kernel) ?_
  (conv => whnf)
  obtain ⟨X, hX⟩ : ∃ X, X = X64 120 := ⟨_, rfl⟩
  have hXl : X.length = 64 := by rw [hX]; exact X64_len _
  have hXt : (X.map ofByte).take 64 = X.map ofByte := by rw [hX]; exact X64_take _
  rw [← hX] at rowA rowB
  have lenC : (hC ++ List.replicate 23 none).length = hC.length + 23 := by simp
  have hA23 : ∀ y, hget (hC ++ List.replicate 23 none) y = hget hC y := fun y => hget_rep _ _ _
  refine VIf.of (fun h0 => absurd h0 (by have := hget_lt rowA; omega)) ?_
  (conv => whnf)
  refine VRow.of ((hA23 _).trans rowA) ?_
  (conv => whnf)
  refine VIf.of (by simp [bRow, hXl]) ?_
  (conv => whnf)
  refine VBytes.of (bs := X) (by simp only [bRow, List.drop_zero]; exact hXt) ?_
  (conv => whnf)
  refine VIf.of (by rw [lenC]; have := hget_lt rowA; omega) ?_
  (conv => whnf)
  refine full_X (c := 120) fun hD rd d1 d2' d3' d4 => ?_
  rw [lenC] at d1 d3' d4
  rw [← hX] at d2'
  have hlC := hget_lt rowA
  have d5 : ∀ y, y < hC.length → hget hD y = hget hC y := fun y hy => (d4 y (by omega)).trans (hA23 y)
  (conv => whnf)
  refine VIf.of (fun _ h0 => absurd h0 (by omega)) ?_
  (conv => whnf)
  refine VRow.of d2' ?_
  (conv => whnf)
  refine VIf.of (by simp [bRow, hXl]) ?_
  (conv => whnf)
  refine VBytes.of (bs := X) (by simp only [bRow, List.drop_zero]; exact hXt) ?_
  (conv => whnf)
  refine Kcond.neS (fun hh => absurd rfl hh) (fun _ => ?_)
  have hlB := hget_lt rowB
  (conv => whnf)
  refine VIf.of (fun h0 => absurd h0 (by omega)) ?_
  (conv => whnf)
  refine VRow.of ((d5 _ (by omega)).trans rowB) ?_
  (conv => whnf)
  refine VIf.of (by simp [bRow, hXl]) ?_
  (conv => whnf)
  refine VBytes.of (bs := X) (by simp only [bRow, List.drop_zero]; exact hXt) ?_
  (conv => whnf)
  refine VIf.of (fun h0 => absurd h0 (by omega)) ?_
  (conv => whnf)
  refine VRow.of ((d5 _ (by omega)).trans rowA) ?_
  (conv => whnf)
  refine VIf.of (by simp [bRow, hXl]) ?_
  (conv => whnf)
  refine VBytes.of (bs := X) (by simp only [bRow, List.drop_zero]; exact hXt) ?_
  (conv => whnf)
  refine Kcond.neS (fun hh => absurd rfl hh) (fun _ => ?_)
  (conv => whnf)
  refine VIf.of ⟨by omega, by omega, by omega⟩ ?_
  (conv => whnf)
  have rowC : hget hC rc = some (bRow (a3.read 1) true) := rc2
  have hlC2 := hget_lt rowC
  refine VIf.of (fun h0 => absurd h0 (by omega)) ?_
  (conv => whnf)
  refine VRow.of ((d5 _ (by omega)).trans rowC) ?_
  (conv => whnf)
  refine VIf.of (by simp [bRow, v5.1]) ?_
  (conv => whnf)
  obtain ⟨Y, hY⟩ : ∃ Y, Y = (a3.read 1).take 4 := ⟨_, rfl⟩
  refine VBytes.of (bs := Y) (by rw [hY]; simp [bRow, List.map_take]) ?_
  (conv => whnf)
  refine Kcond.neS (fun hh => absurd (hY.trans v5.2) hh) (fun _ => ?_)
  have hdD : DAt hD d3 := hdC.grow d5
  (conv => whnf)
  refine trip_ok hdD 1 (by omega) fun h4 hd4 k44 => ?_
  have ea4 : ({ d3 with left := max 1 (-1) } : DD).abs = a4 := by
    have : ({ d3 with left := max 1 (-1) } : DD).abs = { d3.abs with left := 1 } := rfl
    rw [this, ea3]; rfl
  have el4 : ({ d3 with left := max 1 (-1) } : DD).l = d3.l := rfl
  generalize ({ d3 with left := max 1 (-1) } : DD) = d4 at hd4 ea4 el4 k44
  rw [← el4]
  (conv => whnf)
  refine full_X (c := 122) fun h25 rr5 b15 b25 b35 b45 => ?_
  (conv => whnf)
  refine write_ok (hd4.grow b45) (i := 0) (bs := X64 122) (row_bytes b25 (X64_len _)) (fun l off n c e ho => by simp at e; have := hd4.lt ho; omega) (by rw [qlen_abs, ea4]; decide +kernel) fun h5 d5 hd5 k25 ea5 k45 => ?_
  rw [ea4] at ea5 ⊢
  rw [v6]
  rw [← k25]
  have ea5 : d5.abs = a5 := ea5
  (conv => whnf)
  refine sync_ok hd5 fun h6 d6 hd6 k26 ea6 k46 => ?_
  rw [ea5] at ea6 ⊢
  rw [v7, ← k26]
  have ea6 : d6.abs = a6 := ea6
  (conv => whnf)
  refine dark_ok hd6 ?_
  have g6 : d6.gone = true := (congrArg AD.gone ea6).trans v8
  rw [g6]
  (conv => whnf)
  refine crash_ok hd6 0 0 fun h7 d7 hd7 k27 ea7 k47 => ?_
  rw [ea6] at ea7
  have ea7 : d7.abs = a7 := ea7
  rw [← k27]
  (conv => whnf)
  refine cap_ok hd7 2 (by omega) fun h8 hd8 k48 => ?_
  have ea8 : ({ d7 with below := max 2 (-1) } : DD).abs = a8 := by
    have : ({ d7 with below := max 2 (-1) } : DD).abs = { d7.abs with below := 2 } := rfl
    rw [this, ea7]; rfl
  have el8 : ({ d7 with below := max 2 (-1) } : DD).l = d7.l := rfl
  generalize ({ d7 with below := max 2 (-1) } : DD) = d8 at hd8 ea8 el8 k48
  rw [← el8]
  (conv => whnf)
  refine dark_ok hd8 ?_
  have g8 : d8.gone = false := (congrArg AD.gone ea8).trans v9
  rw [g8]
  (conv => whnf)
  refine full_X (c := 122) fun h29 rr9 b19 b29 b39 b49 => ?_
  (conv => whnf)
  refine write_ok (hd8.grow b49) (i := 1) (bs := X64 122) (row_bytes b29 (X64_len _)) (fun l off n c e ho => by simp at e; have := hd8.lt ho; omega) (by rw [qlen_abs, ea8]; decide +kernel) fun h9 d9 hd9 k29 ea9 k49 => ?_
  rw [ea8] at ea9 ⊢
  rw [v10]
  rw [← k29]
  have ea9 : d9.abs = a9 := ea9
  (conv => whnf)
  refine full_X (c := 122) fun h210 rr10 b110 b210 b310 b410 => ?_
  (conv => whnf)
  refine write_ok (hd9.grow b410) (i := 2) (bs := X64 122) (row_bytes b210 (X64_len _)) (fun l off n c e ho => by simp at e; have := hd9.lt ho; omega) (by rw [qlen_abs, ea9]; decide +kernel) fun h10 d10 hd10 k210 ea10 k410 => ?_
  rw [ea9] at ea10 ⊢
  rw [v11]
  rw [← k210]
  have ea10 : d10.abs = a10 := ea10
  (conv => whnf)
  refine full_X (c := 122) fun h2z rrz b1z b2z b3z b4z => ?_
  (conv => whnf)
  refine write_ok (hd10.grow b4z) (i := 3) (bs := X64 122) (row_bytes b2z (X64_len _)) (fun l off n c e ho => by simp at e; have := hd10.lt ho; omega) (by rw [qlen_abs, ea10]; decide +kernel) fun hz dz hdz k2z eaz k4z => ?_
  rw [ea10, v12]
  (conv => whnf)
  exact hk
end Go.Proofs.Ytcdjkpppfghkpaa
