/-
  The law DiskPlays, over the machine of values: it answers true.
-/
import Derived.Test.YtcdjkpppfghkpaaDiskW
set_option linter.unusedVariables false
set_option linter.unusedSimpArgs false
namespace Go.Proofs.Ytcdjkpppfghkpaa
open Go Go.Abs Go.Proofs

variable {base : Nat} {h : Heap} {L : LS} {d : DD} {r : RD} {K : AVal → Heap → LS → Prop}

theorem did_q (a : AD) (x : ActD) : (a.did x).2.q.length ≤ a.q.length + 1 := by
  unfold AD.did
  repeat' split
  all_goals first
    | (simp; done)
    | skip
  · unfold AD.write
    repeat' split
    all_goals simp [AD.went]
  · unfold AD.sync
    split <;> simp [AD.went]
  · simp [AD.crash]

theorem image_len (hd : DAt h d) : d.kept.length ≠ 0 ∧ d.kept.length ≤ 262144 := by
  have := hd.sz
  have := hd.nn
  omega

set_option maxRecDepth 40000 in
theorem plays_ok {n : Int} {l : List ActD} {b : Bool} (hb : b = true → l = []) (hl0 : ∀ x, x ∈ l → ActRd x) (hlen : l.length < 9223372036854775808) (hk : ∀ h', K (.bool true) h' []) : WF CD 0 Try.f3 [.int .i64 n, .lst b (l.map ActD.cells)] [] [] K := by
  (conv => whnf)
  by_cases hn : 1 ≤ n ∧ n ≤ 4096
  rotate_left
  · refine new_bad (by omega) ?_
    (conv => whnf)
    by_cases h1 : n < 1
    · refine Kcond.t (decide_eq_true h1) ?_
      (conv => whnf)
      refine awake_ok ?_
      (conv => whnf)
      exact hk _
    · refine Kcond.f (decide_eq_false h1) ?_
      (conv => whnf)
      refine Kcond.t (decide_eq_true (by omega)) ?_
      (conv => whnf)
      refine awake_ok ?_
      (conv => whnf)
      exact hk _
  obtain ⟨m, rfl⟩ : ∃ m : Nat, n = m := ⟨n.toNat, by omega⟩
  refine new_ok (n := m) (by omega) fun h1 dl dk hd hl1 hl2 hl3 hl4 => ?_
  have ea : (DD.fresh m dl dk).abs = (DD.fresh m 0 0).abs := rfl
  have el : (DD.fresh m dl dk).l = dl := rfl
  have en : (DD.fresh m dl dk).n = m := rfl
  have eq0 : (DD.fresh m dl dk).q.length = 0 := rfl
  generalize DD.fresh m dl dk = d at hd ea el en eq0
  subst el
  (conv => whnf)
  refine Kcond.f (decide_eq_false (by omega)) ?_
  (conv => whnf)
  refine Kcond.f (decide_eq_false (by omega)) ?_
  (conv => whnf)
  refine sectors_ok hd ?_
  rw [en]
  (conv => whnf)
  refine Kcond.neI (fun hh => absurd rfl hh) (fun _ => ?_)
  (conv => whnf)
  by_cases h64 : (m : Int) > 64
  · refine Kcond.t (decide_eq_true h64) ?_
    (conv => whnf)
    refine awake_ok ?_
    (conv => whnf)
    exact hk _
  refine Kcond.f (decide_eq_false h64) ?_
  (conv => whnf)
  refine long_ok hb hlen fun lb hlb => ?_
  (conv => whnf)
  refine Kcond.by (fun hlt => ?_) (fun hlf => ?_)
  · (conv => whnf)
    refine awake_ok ?_
    (conv => whnf)
    exact hk _
  have hl200 := (hlb hlf).1
  have hl : ∀ x, x ∈ l → ActOK x := fun x hx => ⟨(hl0 x hx).nil, by have := (hlb hlf).2 x hx; omega, (hl0 x hx).n⟩
  (conv => whnf)
  refine rnew_ok (n := m) (by omega) fun h2 r hr her hr1 hr2 hr3 => ?_
  have hlt0 := fun x (hx : own d x) => hd.lt hx
  have hd := hd.grow hr3
  (conv => whnf)
  refine VLoop.invL (fun k e h' => ∃ e0 i d r, i + k = l.length ∧ e = put (put (put (put e0 1 (.lst b (l.map ActD.cells))) 5 (.ptr (some (d.l, 0)))) 7 (.ptr (some (r.l, 0)))) 8 (.int .i64 i) ∧ DAt h' d ∧ RAt h' r ∧ d.abs = r.abs ∧ (∀ x, own d x → ¬ ownR r x) ∧ d.q.length ≤ i) ?_ (k := l.length)
    ⟨_, 0, d, r, by omega, put_eq4 rfl rfl rfl rfl, hd, hr, by rw [ea, her], fun x hx hx' => by
      have := hr2 x hx'
      have := hlt0 x hx
      omega, by omega⟩
  clear hd hr ea her en eq0 hlt0
  rintro k e h' ⟨e0, i, d, r, hi, rfl, hd, hr, ha, hdis, hq⟩
  (conv => whnf)
  refine Kcond.dec (fun hc => ?_) (fun hc => ?_)
  · simp only [List.length_map] at hc
    obtain ⟨x, hx⟩ : ∃ x, l[i]? = some x := ⟨_, List.getElem?_eq_getElem (by omega)⟩
    have hxo := hl x (List.mem_of_getElem? hx)
    (conv => whnf)
    refine VNth.of (by omega) (acts_at (by simpa using hx)) rfl ?_
    (conv => whnf)
    refine did_ok hd hxo (by omega) fun h3 d3 hd3 ed3 ea3 fr3 => ?_
    (conv => whnf)
    refine VNth.of (by omega) (acts_at (by simpa using hx)) rfl ?_
    (conv => whnf)
    have hr3 : RAt h3 r := hr.frame fun y hy => fr3.old y (hr.lt hy) fun ho => hdis y ho hy
    have hdis3 : ∀ y, own d3 y → ¬ ownR r y := fun y hy hy' => by
      rcases fr3.new y hy with h1 | h1
      · exact hdis y h1 hy'
      · have := hr.lt hy'; omega
    have hqr : r.q.length = d.q.length := by
      have := congrArg (fun a : AD => a.q.length) ha
      simpa [DD.abs, RD.abs] using this.symm
    refine meant_ok hr3 hxo (by omega) fun h4 r4 hr4 er4 ea4 fr4 => ?_
    have hd4 : DAt h4 d3 := hd3.frame fun y hy => fr4.old y (hd3.lt hy) (hdis3 y hy)
    have hdis4 : ∀ y, own d3 y → ¬ ownR r4 y := fun y hy hy' => by
      rcases fr4.new y hy' with h1 | h1
      · exact hdis3 y hy h1
      · have := hd3.lt hy; omega
    rw [← ha] at ea4 ⊢
    have ha4 : d3.abs = r4.abs := ea3.trans ea4.symm
    have hq4 : d3.q.length ≤ i + 1 := by
      have := did_q d.abs x
      rw [← ea3] at this
      simp [DD.abs] at this
      omega
    rw [← ed3, ← er4]
    (conv => whnf)
    refine VIf.of (by decide +kernel) ?_
    (conv => whnf)
    refine Kcond.neS (fun hh => absurd rfl hh) (fun _ => ?_)
    (conv => whnf)
    refine Kcond.neI (fun hh => absurd rfl hh) (fun _ => ?_)
    (conv => whnf)
    have gd : DAt (h4 ++ List.replicate 27 none) d3 := hd4.frame fun y hy => hget_rep _ _ _
    have gr : RAt (h4 ++ List.replicate 27 none) r4 := hr4.frame fun y hy => hget_rep _ _ _
    have hrl : r4.l < h4.length := hr4.lt (.inl rfl)
    have hql : d3.q.length = r4.q.length := by
      have := congrArg (fun a : AD => a.q.length) ha4
      simpa [DD.abs, RD.abs] using this
    have hdk : d3.gone = r4.dark := congrArg AD.gone ha4
    refine pending_ok gd ?_
    (conv => whnf)
    refine VIf.of (by simp; omega) ?_
    (conv => whnf)
    refine VIf.of (fun h0 => absurd h0 (by omega)) ?_
    (conv => whnf)
    refine VRow.of gr.st ?_
    unfold rRow
    rcases rqv_len r4 with ⟨qn, hv, hqn⟩ | ⟨hv, hqn⟩
    all_goals
      rw [hv]
      (conv => whnf)
      refine Kcond.neI (fun hh => absurd (by rw [hql]; first | exact congrArg _ hqn.symm | rw [hqn]; rfl) hh) (fun _ => ?_)
      (conv => whnf)
      refine dark_ok gd ?_
      (conv => whnf)
      refine VIf.of (by simp; omega) ?_
      (conv => whnf)
      refine VIf.of (fun h0 => absurd h0 (by omega)) ?_
      (conv => whnf)
      refine VRow.of gr.st ?_
      (conv => whnf)
      refine Kcond.f (by rw [hdk]; simp) ?_
      have hd4' := gd
      have hr4' := gr
      (conv => whnf)
      refine Kcond.eqI (fun c1 => ?_) (fun c1 => ?_)
      · (conv => whnf)
        refine image_ok hd4' fun h5 ri i1 i2 i3 i4 => ?_
        have hil := hget_lt i2
        have il := image_len hd4
        have g5 : ∀ y, hget (h5 ++ List.replicate 5 none) y = hget h5 y := fun y => hget_rep _ _ _
        have hr5 : RAt h5 r4 := hr4'.grow i4
        have hkk : d3.kept = r4.secs.flatten := congrArg AD.kept ha4
        (conv => whnf)
        refine VIf.of (by decide +kernel) ?_
        (conv => whnf)
        refine VIf.of (fun h0 => absurd h0 (by omega)) ?_
        (conv => whnf)
        refine VRow.of ((g5 _).trans i2) ?_
        (conv => whnf)
        refine VIf.of (by simp [bRow]) ?_
        (conv => whnf)
        refine VBytes.of (bs := d3.kept) (by simp only [bRow, List.drop_zero]; exact take_map_len _) ?_
        (conv => whnf)
        refine VIf.of (by simp; omega) ?_
        (conv => whnf)
        refine rimage_ok (hr5.frame fun y hy => g5 y) ?_
        (conv => whnf)
        rw [← hkk]
        refine Kcond.neS (fun hh => absurd rfl hh) (fun _ => ?_)
        (conv => whnf)
        have zl : ∀ n, (zeros [.int .u8 0] n).length = n := fun n => by rw [zeros_u8]; simp
        refine VB.clear_own (et := 5) (z := [.int .u8 0]) rfl rfl rfl il.1 ((g5 _).trans i2) (Nat.zero_le _) (by rw [zl]; simp [bRow]) (by rw [zeros_u8]; exact ofBytes_one _) ?_
        have k5 : DAt ((h5 ++ List.replicate 5 none).set ri (some { (bRow d3.kept true) with cells := splice (bRow d3.kept true).cells 0 (zeros [.int .u8 0] d3.kept.length) })) d3 := hd4'.frame fun y hy => by
          have := hd4'.lt hy
          rw [hget_other (by omega), g5, i4 y this]
        have k6 : RAt ((h5 ++ List.replicate 5 none).set ri (some { (bRow d3.kept true) with cells := splice (bRow d3.kept true).cells 0 (zeros [.int .u8 0] d3.kept.length) })) r4 := hr4'.frame fun y hy => by
          have := hr4'.lt hy
          rw [hget_other (by omega), g5, i4 y this]
        (conv => whnf)
        refine Kwrap.fit (by omega) ?_
        (conv => whnf)
        exact ⟨rfl, k - 1, by omega, _, i + 1, d3, r4, by omega, put_eq4 rfl rfl rfl rfl, k5, k6, ha4, hdis4, by omega⟩
      · (conv => whnf)
        refine Kwrap.fit (by omega) ?_
        (conv => whnf)
        refine Kcond.eqI (fun c2 => ?_) (fun c2 => ?_)
        · (conv => whnf)
          refine image_ok hd4' fun h5 ri i1 i2 i3 i4 => ?_
          have hil := hget_lt i2
          have il := image_len hd4
          have g5 : ∀ y, hget (h5 ++ List.replicate 5 none) y = hget h5 y := fun y => hget_rep _ _ _
          have hr5 : RAt h5 r4 := hr4'.grow i4
          have hkk : d3.kept = r4.secs.flatten := congrArg AD.kept ha4
          (conv => whnf)
          refine VIf.of (by decide +kernel) ?_
          (conv => whnf)
          refine VIf.of (fun h0 => absurd h0 (by omega)) ?_
          (conv => whnf)
          refine VRow.of ((g5 _).trans i2) ?_
          (conv => whnf)
          refine VIf.of (by simp [bRow]) ?_
          (conv => whnf)
          refine VBytes.of (bs := d3.kept) (by simp only [bRow, List.drop_zero]; exact take_map_len _) ?_
          (conv => whnf)
          refine VIf.of (by simp; omega) ?_
          (conv => whnf)
          refine rimage_ok (hr5.frame fun y hy => g5 y) ?_
          (conv => whnf)
          rw [← hkk]
          refine Kcond.neS (fun hh => absurd rfl hh) (fun _ => ?_)
          (conv => whnf)
          have zl : ∀ n, (zeros [.int .u8 0] n).length = n := fun n => by rw [zeros_u8]; simp
          refine VB.clear_own (et := 5) (z := [.int .u8 0]) rfl rfl rfl il.1 ((g5 _).trans i2) (Nat.zero_le _) (by rw [zl]; simp [bRow]) (by rw [zeros_u8]; exact ofBytes_one _) ?_
          have k5 : DAt ((h5 ++ List.replicate 5 none).set ri (some { (bRow d3.kept true) with cells := splice (bRow d3.kept true).cells 0 (zeros [.int .u8 0] d3.kept.length) })) d3 := hd4'.frame fun y hy => by
            have := hd4'.lt hy
            rw [hget_other (by omega), g5, i4 y this]
          have k6 : RAt ((h5 ++ List.replicate 5 none).set ri (some { (bRow d3.kept true) with cells := splice (bRow d3.kept true).cells 0 (zeros [.int .u8 0] d3.kept.length) })) r4 := hr4'.frame fun y hy => by
            have := hr4'.lt hy
            rw [hget_other (by omega), g5, i4 y this]
          (conv => whnf)
          refine Kwrap.fit (by omega) ?_
          (conv => whnf)
          exact ⟨rfl, k - 1, by omega, _, i + 1, d3, r4, by omega, put_eq4 rfl rfl rfl rfl, k5, k6, ha4, hdis4, by omega⟩
        · (conv => whnf)
          refine Kwrap.fit (by omega) ?_
          (conv => whnf)
          exact ⟨rfl, k - 1, by omega, _, i + 1, d3, r4, by omega, put_eq4 rfl rfl rfl rfl, hd4', hr4', ha4, hdis4, by omega⟩
  · (conv => whnf)
    have gd : DAt (h' ++ List.replicate 10 none) d := hd.frame fun y hy => hget_rep _ _ _
    have gr : RAt (h' ++ List.replicate 10 none) r := hr.frame fun y hy => hget_rep _ _ _
    have hkk : d.kept = r.secs.flatten := congrArg AD.kept ha
    refine VIf.of (by decide +kernel) ?_
    (conv => whnf)
    refine image_ok gd fun h5 ri i1 i2 i3 i4 => ?_
    have hil := hget_lt i2
    simp only [List.length_append, List.length_replicate] at i1 i3
    have hr5 : RAt h5 r := gr.grow i4
    (conv => whnf)
    refine VIf.of (fun _ h0 => absurd h0 (by omega)) ?_
    (conv => whnf)
    refine VRow.of i2 ?_
    (conv => whnf)
    refine VIf.of (by simp [bRow]) ?_
    (conv => whnf)
    refine VBytes.of (bs := d.kept) (by simp only [bRow, List.drop_zero]; exact take_map_len _) ?_
    (conv => whnf)
    refine VIf.of (by omega) ?_
    (conv => whnf)
    refine rimage_ok hr5 ?_
    rw [← hkk]
    (conv => whnf)
    refine Kcond.eqS (fun _ => ?_) (fun hh => absurd rfl hh)
    (conv => whnf)
    refine awake_ok ?_
    (conv => whnf)
    exact hk _
end Go.Proofs.Ytcdjkpppfghkpaa
