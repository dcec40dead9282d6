/-
  The law DiskRests, over the machine of values: it answers true.
-/
import Derived.Test.YtcdjkpppfghkpaaDiskV
set_option linter.unusedVariables false
set_option linter.unusedSimpArgs false
namespace Go.Proofs.Ytcdjkpppfghkpaa
open Go Go.Abs Go.Proofs

variable {base : Nat} {h : Heap} {L : LS} {d : DD} {r : RD} {K : AVal → Heap → LS → Prop}

theorem did_n (a : AD) (x : ActD) : (a.did x).2.n = a.n := by
  unfold AD.did
  repeat' split
  all_goals first
    | rfl
    | skip
  · unfold AD.write
    repeat' split
    all_goals rfl
  · unfold AD.sync
    split <;> rfl

theorem went_dark {a : AD} (hg : a.gone = true) : a.went.gone = true := by simp [AD.went, hg]

theorem did_dark {a : AD} {x : ActD} (hg : a.gone = true) (h5 : x.doo ≠ 5) : (a.did x).2.kept = a.kept ∧ (a.did x).2.q.length = a.q.length ∧ (a.did x).2.gone = true ∧ (0 ≤ x.doo → x.doo ≤ 2 → (a.did x).1.2 = 11 ∨ (a.did x).1.2 = 1) := by
  have hw := went_dark hg
  unfold AD.did
  split
  · refine ⟨rfl, rfl, hg, fun _ _ => ?_⟩
    simp only [hg, if_true]
    split <;> simp
  split
  · unfold AD.write
    repeat' split
    all_goals simp_all [AD.went]
  split
  · simp only [AD.sync, hw, if_true]
    simp [AD.went, hg]
  split
  · exact ⟨rfl, rfl, hg, fun _ _ => by omega⟩
  split
  · exact ⟨rfl, rfl, hg, fun _ _ => by omega⟩
  · exact ⟨rfl, rfl, hg, fun _ _ => by omega⟩

theorem sync_done {a : AD} (h : a.sync.1 = 0) : a.sync.2.q = [] ∧ a.sync.2.gone = false ∧ a.sync.2.n = a.n := by
  unfold AD.sync at h ⊢
  split at h
  · cases h
  · rename_i hg
    rw [if_neg hg]
    exact ⟨rfl, by simpa using hg, rfl⟩

theorem read_rest {a : AD} (hq : a.q = []) (i : Nat) : a.read i = sec a.kept i := by
  simp [AD.read, hq, sec]

theorem crash_rest {a : AD} (hq : a.q = []) (keep torn : Int) : (a.crash keep torn).kept = a.kept := by
  simp [AD.crash, hq, settledA]

set_option maxRecDepth 40000 in
theorem rests_ok {keep torn : Int} {l : List ActD} {b : Bool} (hb : b = true → l = []) (hl0 : ∀ x, x ∈ l → ActRd x) (hlen : l.length < 9223372036854775808) (hk : ∀ h', K (.bool true) h' []) : WF CD 0 Try.f5 [.lst b (l.map ActD.cells), .int .i64 keep, .int .i64 torn] [] [] K := by
  (conv => whnf)
  refine new_ok (n := 16) (by omega) fun h1 dl dk hd hl1 hl2 hl3 hl4 => ?_
  have el : (DD.fresh 16 dl dk).l = dl := rfl
  have en : (DD.fresh 16 dl dk).n = 16 := rfl
  have eq0 : (DD.fresh 16 dl dk).q.length = 0 := rfl
  generalize DD.fresh 16 dl dk = d at hd el en eq0
  subst el
  (conv => whnf)
  refine long_ok hb hlen fun lb hlb => ?_
  (conv => whnf)
  refine Kcond.by (fun hlt => ?_) (fun hlf => ?_)
  · (conv => whnf)
    refine awake_ok ?_
    (conv => whnf)
    exact hk _
  have hl200 := (hlb hlf).1
  have hl : ∀ x, x ∈ l → ActOK x := fun x hx => ⟨(hl0 x hx).nil, by have := (hlb hlf).2 x hx; omega, (hl0 x hx).n⟩
  (conv => whnf)
  refine VLoop.invL (fun k e h' => ∃ e0 i d, i + k = l.length ∧ e = put (put (put (put (put e0 0 (.lst b (l.map ActD.cells))) 1 (.int .i64 keep)) 2 (.int .i64 torn)) 7 (.ptr (some (d.l, 0)))) 9 (.int .i64 i) ∧ DAt h' d ∧ d.n = 16 ∧ d.q.length ≤ i) ?_ (k := l.length)
    ⟨_, 0, d, by omega, put_eq5 rfl rfl rfl rfl rfl, hd, en, by omega⟩
  clear hd en eq0
  rintro k e h' ⟨e0, i, d, hi, rfl, hd, hn, hq⟩
  have hnn := hd.nn
  have hsz := hd.sz
  (conv => whnf)
  refine Kcond.dec (fun hc => ?_) (fun hc => ?_)
  · simp only [List.length_map] at hc
    obtain ⟨x, hx⟩ : ∃ x, l[i]? = some x := ⟨_, List.getElem?_eq_getElem (by omega)⟩
    have hxo := hl x (List.mem_of_getElem? hx)
    (conv => whnf)
    refine VIf.of (by decide +kernel) ?_
    (conv => whnf)
    have gd : DAt (h' ++ List.replicate 7 none) d := hd.frame fun y hy => hget_rep _ _ _
    refine image_ok gd fun h2 r1 i1 i2 i3 i4 => ?_
    have hd2 := gd.grow i4
    have hil := hget_lt i2
    simp only [List.length_append, List.length_replicate] at i1 i3
    (conv => whnf)
    refine VIf.of (fun _ h0 => absurd h0 (by omega)) ?_
    (conv => whnf)
    refine VRow.of i2 ?_
    (conv => whnf)
    refine VIf.of (by simp [bRow]) ?_
    (conv => whnf)
    refine VBytes.of (bs := d.kept) (by simp only [bRow, List.drop_zero]; exact take_map_len _) ?_
    (conv => whnf)
    refine VIf.of (by omega) ?_
    (conv => whnf)
    refine pending_ok hd2 ?_
    (conv => whnf)
    refine dark_ok hd2 ?_
    (conv => whnf)
    refine VNth.of (by omega) (acts_at (by simpa using hx)) rfl ?_
    (conv => whnf)
    refine did_ok hd2 hxo (by omega) fun h3 d3 hd3 ed3 ea3 fr3 => ?_
    have hn3 : d3.n = 16 := (congrArg AD.n ea3).trans ((did_n _ _).trans hn)
    have hq3 : d3.q.length ≤ i + 1 := by
      have := did_q d.abs x
      rw [← ea3] at this
      simp [DD.abs] at this
      omega
    rw [← ed3]
    (conv => whnf)
    refine Kcond.by (fun hg => ?_) (fun hg => ?_)
    · (conv => whnf)
      refine VNth.of (by omega) (acts_at (by simpa using hx)) rfl ?_
      (conv => whnf)
      refine Kcond.neI (fun h5 => ?_) (fun h5 => ?_)
      · (conv => whnf)
        refine image_ok hd3 fun h4 r2 j1 j2 j3 j4 => ?_
        have hd4 := hd3.grow j4
        have hjl := hget_lt j2
        (conv => whnf)
        obtain ⟨dk, dq, dg, de⟩ := did_dark (a := d.abs) (x := x) hg h5
        have ek : d3.kept = d.kept := (congrArg AD.kept ea3).trans dk
        have eq : d3.q.length = d.q.length := by
          have := (congrArg (fun a : AD => a.q.length) ea3).trans dq
          simpa [DD.abs] using this
        have eg : d3.gone = true := (congrArg AD.gone ea3).trans dg
        refine VRow.of j2 ?_
        (conv => whnf)
        refine VIf.of (by simp [bRow]) ?_
        (conv => whnf)
        refine VBytes.of (bs := d3.kept) (by simp only [bRow, List.drop_zero]; exact take_map_len _) ?_
        (conv => whnf)
        refine Kcond.neS (fun hh => absurd ek hh) (fun _ => ?_)
        (conv => whnf)
        refine pending_ok hd4 ?_
        (conv => whnf)
        refine Kcond.neI (fun hh => absurd (congrArg Nat.cast eq) hh) (fun _ => ?_)
        (conv => whnf)
        refine dark_ok hd4 ?_
        rw [eg]
        (conv => whnf)
        refine VNth.of (by omega) (acts_at (by simpa using hx)) rfl ?_
        (conv => whnf)
        refine Kcond.dec (fun h0 => ?_) (fun h0 => ?_)
        · (conv => whnf)
          refine VNth.of (by omega) (acts_at (by simpa using hx)) rfl ?_
          (conv => whnf)
          refine Kcond.dec (fun h2' => ?_) (fun h2' => ?_)
          · have de := de h0 h2'
            (conv => whnf)
            refine Kcond.neI (fun e11 => ?_) (fun e11 => ?_)
            · (conv => whnf)
              refine Kcond.neI (fun e1 => ?_) (fun e1 => ?_)
              · rcases de with h9 | h9
                · exact absurd h9 e11
                · exact absurd h9 e1
              · (conv => whnf)
                refine Kwrap.fit (by omega) ?_
                (conv => whnf)
                exact ⟨rfl, k - 1, by omega, _, i + 1, d3, by omega, put_eq5 rfl rfl rfl rfl rfl, hd4, hn3, by omega⟩
            · (conv => whnf)
              refine Kwrap.fit (by omega) ?_
              (conv => whnf)
              exact ⟨rfl, k - 1, by omega, _, i + 1, d3, by omega, put_eq5 rfl rfl rfl rfl rfl, hd4, hn3, by omega⟩
          · (conv => whnf)
            refine Kwrap.fit (by omega) ?_
            (conv => whnf)
            exact ⟨rfl, k - 1, by omega, _, i + 1, d3, by omega, put_eq5 rfl rfl rfl rfl rfl, hd4, hn3, by omega⟩
        · (conv => whnf)
          refine Kwrap.fit (by omega) ?_
          (conv => whnf)
          exact ⟨rfl, k - 1, by omega, _, i + 1, d3, by omega, put_eq5 rfl rfl rfl rfl rfl, hd4, hn3, by omega⟩
      · (conv => whnf)
        refine Kwrap.fit (by omega) ?_
        (conv => whnf)
        exact ⟨rfl, k - 1, by omega, _, i + 1, d3, by omega, put_eq5 rfl rfl rfl rfl rfl, hd3, hn3, by omega⟩
    · (conv => whnf)
      refine Kwrap.fit (by omega) ?_
      (conv => whnf)
      exact ⟨rfl, k - 1, by omega, _, i + 1, d3, by omega, put_eq5 rfl rfl rfl rfl rfl, hd3, hn3, by omega⟩
  · (conv => whnf)
    refine sync_ok hd fun h2 d2 hd2 ed2 ea2 fr2 => ?_
    rw [← ed2]
    (conv => whnf)
    refine Kcond.neI (fun h0 => ?_) (fun h0 => ?_)
    · (conv => whnf)
      refine awake_ok ?_
      (conv => whnf)
      exact hk _
    obtain ⟨sq, sg, sn⟩ := sync_done h0
    rw [← ea2] at sq sg sn
    have hn2 : d2.n = 16 := sn.trans hn
    have hg2 : d2.gone = false := sg
    have hq2 : d2.q.length = 0 := by
      have := congrArg List.length sq
      simpa [DD.abs] using this
    (conv => whnf)
    refine split_ok hd2 fun h3 l3 s1 s2 s3 s4 => ?_
    have hd3 := hd2.grow s4
    (conv => whnf)
    refine Kcond.neI (fun hh => absurd (by rw [hn2]; rfl) hh) (fun _ => ?_)
    (conv => whnf)
    refine pending_ok hd3 ?_
    (conv => whnf)
    refine Kcond.neI (fun hh => absurd (by rw [hq2]; rfl) hh) (fun _ => ?_)
    (conv => whnf)
    refine VLoop.invL (fun k e h' => ∃ e0 i, i + k = 16 ∧ e = put (put (put (put (put e0 1 (.int .i64 keep)) 2 (.int .i64 torn)) 7 (.ptr (some (d2.l, 0)))) 15 (.own l3 0 d2.n none)) 16 (.int .i64 i) ∧ DAt h' d2 ∧ hget h' l3 = some (sRow (cutS d2.kept d2.n)) ∧ l3 < h'.length) ?_ (k := 16)
      ⟨_, 0, by omega, put_eq5 rfl rfl rfl rfl rfl, hd3, s2, hget_lt s2⟩
    rintro k e h' ⟨e0, i, hi, rfl, hd4, s5, s6⟩
    (conv => whnf)
    refine Kcond.dec (fun hc => ?_) (fun hc => ?_)
    · (conv => whnf)
      refine read_ok hd4 (fun hA ra g1 g2 ra1 ra2 ra3 ra4 => ?_) (fun hno => absurd ⟨by omega, by omega⟩ hno) (fun _ hg => by rw [hg2] at hg; cases hg)
      have hd5 := hd4.grow ra4
      rw [read_rest sq] at ra2
      have hrl := hget_lt ra2
      have hsl : (sec d2.abs.kept i).length = 64 := by
        have := hd2.sz
        simp [sec, DD.abs]; omega
      have g5 : ∀ y, hget (hA ++ List.replicate 11 none) y = hget hA y := fun y => hget_rep _ _ _
      (conv => whnf)
      refine VIf.of (by decide +kernel) ?_
      (conv => whnf)
      refine VIf.of (fun h0 => absurd h0 (by omega)) ?_
      (conv => whnf)
      refine VRow.of ((g5 _).trans ra2) ?_
      (conv => whnf)
      refine VIf.of (by simp [bRow, hsl]) ?_
      (conv => whnf)
      refine VBytes.of (bs := sec d2.abs.kept i) (by simp only [bRow, List.drop_zero]; rw [← hsl]; exact take_map_len _) ?_
      (conv => whnf)
      refine VIf.of ⟨by omega, by omega⟩ ?_
      have hl3 : hget (hA ++ List.replicate 11 none) l3 = some (sRow (cutS d2.kept d2.n)) := (g5 _).trans ((ra4 _ s6).trans s5)
      have hl4 : l3 < hA.length := by omega
      (conv => whnf)
      refine VIf.of (fun h0 => absurd h0 (by omega)) ?_
      (conv => whnf)
      refine VRow.of hl3 ?_
      refine Kopt.of (loadAV_one (v := .str (sec d2.abs.kept i)) (r := ((cutS d2.kept d2.n).map AVal.str).drop (i + 1)) rfl (by simpa [sRow, DD.abs] using strs_drop (cutS_at (k := d2.kept) (by omega : i < d2.n)))) ?_
      (conv => whnf)
      refine Kcond.neS (fun hh => absurd rfl hh) (fun _ => ?_)
      (conv => whnf)
      refine Kwrap.fit (by omega) ?_
      (conv => whnf)
      exact ⟨rfl, k - 1, by omega, _, i + 1, by omega, put_eq5 rfl rfl rfl rfl rfl, hd5.frame fun y hy => g5 y, hl3, by simp; omega⟩
    · (conv => whnf)
      refine image_ok hd4 fun h5 r5 i1 i2 i3 i4 => ?_
      have hd5 := hd4.grow i4
      (conv => whnf)
      refine VRow.of i2 ?_
      (conv => whnf)
      refine VIf.of (by simp [bRow]) ?_
      (conv => whnf)
      refine VBytes.of (bs := d2.kept) (by simp only [bRow, List.drop_zero]; exact take_map_len _) ?_
      (conv => whnf)
      refine crash_ok hd5 keep torn fun h6 d6 hd6 ed6 ea6 fr6 => ?_
      rw [← ed6]
      (conv => whnf)
      refine image_ok hd6 fun h7 r7 j1 j2 j3 j4 => ?_
      (conv => whnf)
      refine VRow.of j2 ?_
      (conv => whnf)
      refine VIf.of (by simp [bRow]) ?_
      (conv => whnf)
      refine VBytes.of (bs := d6.kept) (by simp only [bRow, List.drop_zero]; exact take_map_len _) ?_
      have ek : d6.kept = d2.kept := (congrArg AD.kept ea6).trans (crash_rest sq keep torn)
      (conv => whnf)
      refine Kcond.eqS (fun _ => ?_) (fun hh => absurd ek hh)
      (conv => whnf)
      refine awake_ok ?_
      (conv => whnf)
      exact hk _
end Go.Proofs.Ytcdjkpppfghkpaa
