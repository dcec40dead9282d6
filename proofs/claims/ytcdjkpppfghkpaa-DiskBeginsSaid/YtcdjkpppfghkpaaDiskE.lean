/-
  The disk: what is read.
-/
import Derived.Test.YtcdjkpppfghkpaaDiskD
set_option linter.unusedVariables false
set_option linter.unusedSimpArgs false
namespace Go.Proofs.Ytcdjkpppfghkpaa
open Go Go.Abs Go.Proofs

variable {base : Nat} {h : Heap} {L : LS} {d : DD} {K : AVal → Heap → LS → Prop}

theorem backward_ok {v : AVal} (hv : v = .lst true [] ∨ ∃ l o n c, v = .own l o n c) (hk : K (.func 39 [] [.ptr (some (h.length, 0))]) (h ++ [some ⟨[v], 54, false⟩]) L) : VCall CD base 34 [v] h L K := by
  refine VCall.grow (fn := Try.f34) Try.func34 rfl rfl ?_
  rcases hv with rfl | ⟨l, o, n, c, rfl⟩
  · (conv => whnf)
    refine VAlloc.new rfl ?_
    (conv => whnf)
    exact hk
  · (conv => whnf)
    refine VAlloc.new rfl ?_
    (conv => whnf)
    exact hk

def AD.read (a : AD) (i : Int) : List UInt8 := match a.q.reverse.find? fun x => x.1 == i with
  | some x => x.2
  | none => (a.kept.drop (64 * i.toNat)).take 64

theorem find_last {q : List QE} {k : Nat} {w : QE} {i : Int} (hw : q[k]? = some w) (ha : w.a = i) (hn : ∀ j x, k < j → q[j]? = some x → x.a ≠ i) : (q.map fun x => (x.a, x.b)).reverse.find? (fun x => x.1 == i) = some (w.a, w.b) := by
  have hk : k < q.length := (List.getElem?_eq_some_iff.1 hw).1
  have e : q = q.take k ++ w :: q.drop (k + 1) := by
    have h1 := List.take_append_drop k q
    have h2 : q.drop k = w :: q.drop (k + 1) := by
      rw [List.drop_eq_getElem_cons hk]
      congr 1
      rw [List.getElem?_eq_getElem hk] at hw
      simpa using hw
    rw [h2] at h1
    exact h1.symm
  rw [e]
  simp only [List.map_append, List.map_cons, List.reverse_append, List.reverse_cons, List.find?_append]
  have h1 : ((q.drop (k + 1)).map fun x => (x.a, x.b)).reverse.find? (fun x => x.1 == i) = none := by
    rw [List.find?_eq_none]
    intro x hx
    simp only [List.mem_reverse, List.mem_map] at hx
    obtain ⟨y, hy, rfl⟩ := hx
    obtain ⟨j, hj⟩ := List.getElem?_of_mem hy
    rw [List.getElem?_drop] at hj
    simpa using hn _ y (by omega) hj
  rw [h1]
  simp [ha]

theorem read_ok (hd : DAt h d) {i : Int} (hk : ∀ h' r, 0 ≤ i ∧ i < d.n → d.gone = false → h.length ≤ r → hget h' r = some (bRow (d.abs.read i) true) → h.length ≤ h'.length → (∀ x, x < h.length → hget h' x = hget h x) → K (.tup [.own r 0 64 none, .int .i64 0]) h' L)
    (hk1 : ¬ (0 ≤ i ∧ i < d.n) → ∀ h', h.length ≤ h'.length → (∀ x, x < h.length → hget h' x = hget h x) → K (.tup [.lst true [], .int .i64 1]) h' L)
    (hk2 : (0 ≤ i ∧ i < d.n) → d.gone = true → ∀ h', h.length ≤ h'.length → (∀ x, x < h.length → hget h' x = hget h x) → K (.tup [.lst true [], .int .i64 11]) h' L) : VCall CD base 21 [.ptr (some (d.l, 0)), .int .i64 i] h L K := by
  refine VCall.grow (fn := Try.f21) Try.func21 rfl rfl ?_
  (conv => whnf)
  refine VAlloc.new rfl ?_
  (conv => whnf)
  refine VAlloc.new rfl ?_
  (conv => whnf)
  refine VAlloc.new rfl ?_
  have l1 : (h ++ [some (⟨[.int .i64 i], 3, false⟩ : Blk)]).length = h.length + 1 := by simp
  have l2 : (h ++ [some (⟨[.int .i64 i], 3, false⟩ : Blk)] ++ [some (⟨[.lst true []], 34, false⟩ : Blk)]).length = h.length + 2 := by simp
  rw [l1, l2]
  obtain ⟨G, hG⟩ : ∃ G, G = h ++ [some (⟨[.int .i64 i], 3, false⟩ : Blk)] ++ [some (⟨[.lst true []], 34, false⟩ : Blk)] ++ [some (⟨[.int .i64 0], 24, false⟩ : Blk)] := ⟨_, rfl⟩
  rw [← hG]
  have gl : G.length = h.length + 3 := by rw [hG]; simp
  have g0 : ∀ x, x < h.length → hget G x = hget h x := fun x hx => by rw [hG, hget_old (by simp; omega), hget_old (by simp; omega), hget_old hx]
  have g1 : hget G h.length = some ⟨[.int .i64 i], 3, false⟩ := by rw [hG, hget_old (by simp), hget_old (by simp), hget_new]
  have g2 : hget G (h.length + 1) = some ⟨[.lst true []], 34, false⟩ := by rw [hG, hget_old (by simp), ← l1, hget_new]
  have g3 : hget G (h.length + 2) = some ⟨[.int .i64 0], 24, false⟩ := by rw [hG, ← l2, hget_new]
  have hdG : DAt G d := hd.frame fun x hx => g0 x (hd.lt hx)
  (conv => whnf)
  refine VRow.of g1 ?_
  (conv => whnf)
  refine has_ok hdG i ?_
  (conv => whnf)
  refine Kcond.not (Kcond.dec (fun h0 => ?_) (fun h0 => ?_))
  rotate_left
  · (conv => whnf)
    refine VWrite.to (b' := ⟨[.lst true []], 34, false⟩) g2 (by omega) rfl rfl rfl ?_
    (conv => whnf)
    refine VWrite.to (b' := ⟨[.int .i64 1], 24, false⟩) ((hget_other (by omega)).trans g3) (by omega) rfl rfl rfl ?_
    (conv => whnf)
    refine VRow.of ((hget_other (by omega)).trans (hget_put (by omega))) ?_
    (conv => whnf)
    refine VRow.of (hget_put (by simp; omega)) ?_
    (conv => whnf)
    exact hk1 h0 _ (by simp; omega) fun x hx => by rw [hget_other (by omega), hget_other (by omega), g0 x hx]
  (conv => whnf)
  refine VRow.of hdG.st ?_
  (conv => whnf)
  refine Kcond.by (fun hg => ?_) (fun hg => ?_)
  · (conv => whnf)
    refine VWrite.to (b' := ⟨[.lst true []], 34, false⟩) g2 (by omega) rfl rfl rfl ?_
    (conv => whnf)
    refine VWrite.to (b' := ⟨[.int .i64 11], 24, false⟩) ((hget_other (by omega)).trans g3) (by omega) rfl rfl rfl ?_
    (conv => whnf)
    refine VRow.of ((hget_other (by omega)).trans (hget_put (by omega))) ?_
    (conv => whnf)
    refine VRow.of (hget_put (by simp; omega)) ?_
    (conv => whnf)
    exact hk2 h0 hg _ (by simp; omega) fun x hx => by rw [hget_other (by omega), hget_other (by omega), g0 x hx]
  (conv => whnf)
  have hst := hdG.st
  have same : ∀ x, own d x → x < h.length := fun x hx => hd.lt hx
  have key : ∀ v, (v = .lst true [] ∨ ∃ l o n c, v = .own l o n c) → qval d = v → ∀ env : List AVal, ∀ (e : Env), AgreeF env e → e 3 = .ptr (some (h.length, 0)) → e 4 = .ptr (some (h.length + 1, 0)) → e 5 = .ptr (some (h.length + 2, 0)) → True := fun _ _ _ _ _ _ _ _ _ => trivial
  let A : Heap → Prop := fun h' => G.length ≤ h'.length ∧ (∀ x, x < G.length → hget h' x = hget G x) ∧ ∀ x, x ∈ d.q → x.a ≠ i
  let B : Heap → Prop := fun h' => G.length ≤ h'.length ∧ (∀ x, x < h.length → hget h' x = hget G x) ∧ ∃ r, h.length ≤ r ∧ hget h' (h.length + 1) = some ⟨[.own r 0 64 none], 34, false⟩ ∧ hget h' (h.length + 2) = some ⟨[.int .i64 0], 24, false⟩ ∧ hget h' r = some (bRow (d.abs.read i) true)
  have hdH : ∀ {H}, A H → DAt H d := fun hA => hdG.frame fun x hx => hA.2.1 x (by have := same x hx; omega)
  have none_read : (∀ x, x ∈ d.q → x.a ≠ i) → d.abs.read i = (d.kept.drop (64 * i.toNat)).take 64 := by
    intro hn
    unfold AD.read
    rw [List.find?_eq_none.2 fun x hx => ?_]
    · rfl
    · simp [DD.abs] at hx
      obtain ⟨y, hy, rfl⟩ := hx
      simpa using hn y hy
  rcases hqq : d.q with _ | ⟨x0, qs⟩
  · have hv : qval d = .lst true [] := by simp [qval, hqq]
    unfold stRow at hst
    rw [hv] at hst
    refine VRow.of hst ?_
    (conv => whnf)
    refine backward_ok (.inl rfl) ?_
    (conv => whnf)
    refine VRange.two A B (fun env ag => ?_) (fun h' hA => ?_) (fun h' hB => ?_)
    · refine VCall.full (fn := Try.f39) Try.func39 rfl rfl ?_
      (conv => whnf)
      refine VRow.of ((hget_old (by simp)).trans (hget_new _ _)) ?_
      (conv => whnf)
      refine Kwrap.fit (by simp) ?_
      (conv => whnf)
      refine VLoop.still (fun _ e => ∃ e0, e = put e0 3 (.int .i64 (-1))) ?_ (k := 0) ⟨_, put_eq1 rfl⟩
      rintro k e ⟨e0, rfl⟩
      (conv => whnf)
      exact .inl ⟨rfl, by simp <;> omega, fun x hx => by rw [hget_old (by simp; omega), hget_old hx], fun x hx => by rw [hqq] at hx; cases hx⟩
    · (conv => whnf)
      have hdh := hdH hA
      have htail := none_read hA.2.2
      refine VRow.of ((hA.2.1 _ (by omega)).trans g1) ?_
      (conv => whnf)
      refine lasting_ok hdh h0.1 h0.2 ?_
      (conv => whnf)
      have hsz := hd.sz
      have hnn := hd.nn
      have hle : 64 * i.toNat + 64 ≤ d.kept.length := by omega
      have hkl : ((d.kept.drop (64 * i.toNat)).take 64).length = 64 := by simp; omega
      refine clone_ok (bs := (d.kept.drop (64 * i.toNat)).take 64) (by
        have hb : Bytes h' ((d.kept.drop (64 * i.toNat)).take 64) (.own d.lk (64 * i.toNat) ((d.kept.drop (64 * i.toNat)).take 64).length (some (d.kept.length - 64 * i.toNat))) := .own hdh.kp (by rw [hkl]; simp [bRow]; omega) (by rw [hkl]; simp [bRow, List.map_take, List.map_drop])
        rwa [hkl] at hb) (by intro hh; rw [hh] at hkl; cases hkl) (by omega) fun h2 r c1 c2 c3 c4 => ?_
      rw [hkl]
      have hAl := hA.1
      have c5 : ∀ x, x < G.length → hget h2 x = hget G x := fun x hx => by rw [c4 x (by omega), hA.2.1 x hx]
      (conv => whnf)
      refine VWrite.to (b' := ⟨[.own r 0 64 none], 34, false⟩) ((c5 _ (by omega)).trans g2) (by omega) rfl rfl rfl ?_
      (conv => whnf)
      refine VWrite.to (b' := ⟨[.int .i64 0], 24, false⟩) ((hget_other (by omega)).trans ((c5 _ (by omega)).trans g3)) (by omega) rfl rfl rfl ?_
      (conv => whnf)
      refine VRow.of ((hget_other (by omega)).trans (hget_put (by omega))) ?_
      (conv => whnf)
      refine VRow.of (hget_put (by simp; omega)) ?_
      (conv => whnf)
      refine hk _ r h0 hg (by omega) ?_ (by simp; omega) fun x hx => by rw [hget_other (by omega), hget_other (by omega), c5 x (by omega), g0 x hx]
      rw [hget_other (by omega), hget_other (by omega), c2, htail]
    · (conv => whnf)
      obtain ⟨b1, b2, r, b3, b4, b5, b6⟩ := hB
      refine VRow.of b4 ?_
      (conv => whnf)
      refine VRow.of b5 ?_
      (conv => whnf)
      exact hk _ r h0 hg b3 b6 (by omega) fun x hx => by rw [b2 x hx, g0 x hx]
  · have hqn : d.q ≠ [] := by rw [hqq]; simp
    have hv : qval d = .own d.lq 0 d.q.length none := by simp [qval, hqq]
    unfold stRow at hst
    rw [hv] at hst
    refine VRow.of hst ?_
    (conv => whnf)
    refine backward_ok (.inr ⟨_, _, _, _, rfl⟩) ?_
    (conv => whnf)
    refine VRange.two A B (fun env ag => ?_) (fun h' hA => ?_) (fun h' hB => ?_)
    · have hqb := hd.qb
      have hlq : d.lq < h.length := same _ (.inr (.inr (.inl ⟨hqn, rfl⟩)))
      refine VCall.full (fn := Try.f39) Try.func39 rfl rfl ?_
      (conv => whnf)
      have hbox : hget (G ++ [some (⟨[.own d.lq 0 d.q.length none], 54, false⟩ : Blk)] ++ [none]) G.length = some ⟨[.own d.lq 0 d.q.length none], 54, false⟩ := (hget_old (by simp)).trans (hget_new _ _)
      refine VRow.of hbox ?_
      (conv => whnf)
      refine Kwrap.fit (by omega) ?_
      (conv => whnf)
      obtain ⟨H, hH⟩ : ∃ H, H = G ++ [some (⟨[.own d.lq 0 d.q.length none], 54, false⟩ : Blk)] ++ [none] := ⟨_, rfl⟩
      have Hl : H.length = h.length + 5 := by rw [hH]; simp; omega
      have H0 : ∀ x, x < G.length → hget H x = hget G x := fun x hx => by rw [hH, hget_old (by simp; omega), hget_old hx]
      rw [← hH] at hbox ⊢
      refine VLoop.invL (fun k e h' => ∃ e0, e = put (put (put e0 0 (.yld (G ++ [some (⟨[.own d.lq 0 d.q.length none], 54, false⟩ : Blk)]).length)) 1 (.ptr (some (G.length, 0)))) 3 (.int .i64 ((k : Int) - 1)) ∧ k ≤ d.q.length ∧ H.length ≤ h'.length ∧ (∀ x, x < H.length → hget h' x = hget H x) ∧ ∀ j x, k ≤ j → d.q[j]? = some x → x.a ≠ i)
        ?_ (k := d.q.length) ⟨_, put_eq3 rfl rfl rfl, Nat.le_refl _, Nat.le_refl _, fun _ _ => rfl, fun j x hj hx => by rw [List.getElem?_eq_none hj] at hx; cases hx⟩
      rintro k e h' ⟨e0, rfl, k1, k2, k3, k4⟩
      (conv => whnf)
      refine Kcond.dec (fun hc => ?_) (fun hc => ?_)
      · obtain ⟨k', rfl⟩ : ∃ k', k = k' + 1 := ⟨k - 1, by omega⟩
        have ek : ((k' + 1 : Nat) : Int) - 1 = k' := by omega
        rw [ek]
        obtain ⟨w, hw⟩ : ∃ w, d.q[k']? = some w := ⟨_, List.getElem?_eq_getElem (by omega)⟩
        have hwm : w ∈ d.q := List.mem_of_getElem? hw
        have hwr : w.r < h.length := same _ (.inr (.inr (.inr ⟨w, hwm, rfl⟩)))
        (conv => whnf)
        refine VRow.of ((k3 _ (by omega)).trans hbox) ?_
        (conv => whnf)
        refine VIf.of ⟨by omega, by omega⟩ ?_
        (conv => whnf)
        refine VRow.of ((k3 _ (by omega)).trans ((H0 _ (by omega)).trans ((g0 _ hlq).trans (hd.qu hqn)))) ?_
        refine Kopt.of (loadAV_agg (m := 2) (vs := [.int .i64 w.a, .own w.r 0 64 none]) rfl rfl (by rw [Nat.zero_add]; exact qcells_at hw) rfl) ?_
        (conv => whnf)
        refine VYld.round rfl rfl ag rfl ?_
        (conv => whnf)
        refine VAlloc.new rfl ?_
        (conv => whnf)
        refine VWrite.to (b' := ⟨[.int .i64 w.a, .own w.r 0 64 none], 64, false⟩) (hget_new _ _) (by omega) rfl rfl rfl ?_
        rw [set_new]
        (conv => whnf)
        refine VRow.of (hget_new _ _) ?_
        (conv => whnf)
        refine VRow.of ((hget_old (by omega)).trans ((k3 _ (by omega)).trans ((H0 _ (by omega)).trans g1))) ?_
        (conv => whnf)
        refine Kcond.eqI (fun heq => ?_) (fun hne => ?_)
        · (conv => whnf)
          refine VRow.of (hget_new _ _) ?_
          (conv => whnf)
          have hwl := (hd.el w hwm).1
          refine clone_ok (bs := w.b) (by rw [← hwl]; exact .own ((hget_old (by omega)).trans ((k3 _ (by omega)).trans ((H0 _ (by omega)).trans ((g0 _ hwr).trans (hd.en w hwm))))) (by simp [bRow]) (by simp only [bRow, List.drop_zero]; exact take_map_len _)) (by intro hh; rw [hh] at hwl; cases hwl) (by omega) fun h2 r c1 c2 c3 c4 => ?_
          rw [hwl]
          have c5 : ∀ x, x < H.length → hget h2 x = hget H x := fun x hx => by rw [c4 x (by simp; omega), hget_old (by omega), k3 x hx]
          simp only [List.length_append, List.length_cons, List.length_nil] at c1 c3
          (conv => whnf)
          refine VWrite.to (b' := ⟨[.own r 0 64 none], 34, false⟩) ((c5 _ (by omega)).trans ((H0 _ (by omega)).trans g2)) (by omega) rfl rfl rfl ?_
          (conv => whnf)
          refine VWrite.to (b' := ⟨[.int .i64 0], 24, false⟩) ((hget_other (by omega)).trans ((c5 _ (by omega)).trans ((H0 _ (by omega)).trans g3))) (by omega) rfl rfl rfl ?_
          (conv => whnf)
          refine .inr ⟨rfl, by simp; omega, fun x hx => by rw [hget_other (by omega), hget_other (by omega), c5 x (by omega), H0 x (by omega)], r, by omega, ?_, ?_, ?_⟩
          · rw [hget_other (by omega), hget_put (by omega)]
          · rw [hget_put (by simp; omega)]
          · rw [hget_other (by omega), hget_other (by omega), c2]
            unfold AD.read
            rw [show d.abs.q = d.q.map fun x => (x.a, x.b) from rfl, find_last hw heq fun j x hj hx => k4 j x (by omega) hx]
        · (conv => whnf)
          refine Kwrap.fit (by omega) ?_
          (conv => whnf)
          refine ⟨rfl, k', by omega, _, put_eq3 rfl rfl rfl, by omega, by simp; omega, fun x hx => by rw [hget_old (by omega), k3 x hx], fun j x hj hx => ?_⟩
          rcases Nat.lt_or_ge k' j with h' | h'
          · exact k4 j x h' hx
          · have : j = k' := by omega
            subst this
            rw [hw] at hx; cases hx; exact hne
      · (conv => whnf)
        have : k = 0 := by omega
        subst this
        refine .inl ⟨rfl, by omega, fun x hx => by rw [k3 x (by omega), H0 x hx], fun x hx => ?_⟩
        obtain ⟨j, hj⟩ := List.getElem?_of_mem hx
        exact k4 j x (Nat.zero_le _) hj
    · (conv => whnf)
      have hdh := hdH hA
      have htail := none_read hA.2.2
      refine VRow.of ((hA.2.1 _ (by omega)).trans g1) ?_
      (conv => whnf)
      refine lasting_ok hdh h0.1 h0.2 ?_
      (conv => whnf)
      have hsz := hd.sz
      have hnn := hd.nn
      have hle : 64 * i.toNat + 64 ≤ d.kept.length := by omega
      have hkl : ((d.kept.drop (64 * i.toNat)).take 64).length = 64 := by simp; omega
      refine clone_ok (bs := (d.kept.drop (64 * i.toNat)).take 64) (by
        have hb : Bytes h' ((d.kept.drop (64 * i.toNat)).take 64) (.own d.lk (64 * i.toNat) ((d.kept.drop (64 * i.toNat)).take 64).length (some (d.kept.length - 64 * i.toNat))) := .own hdh.kp (by rw [hkl]; simp [bRow]; omega) (by rw [hkl]; simp [bRow, List.map_take, List.map_drop])
        rwa [hkl] at hb) (by intro hh; rw [hh] at hkl; cases hkl) (by omega) fun h2 r c1 c2 c3 c4 => ?_
      rw [hkl]
      have hAl := hA.1
      have c5 : ∀ x, x < G.length → hget h2 x = hget G x := fun x hx => by rw [c4 x (by omega), hA.2.1 x hx]
      (conv => whnf)
      refine VWrite.to (b' := ⟨[.own r 0 64 none], 34, false⟩) ((c5 _ (by omega)).trans g2) (by omega) rfl rfl rfl ?_
      (conv => whnf)
      refine VWrite.to (b' := ⟨[.int .i64 0], 24, false⟩) ((hget_other (by omega)).trans ((c5 _ (by omega)).trans g3)) (by omega) rfl rfl rfl ?_
      (conv => whnf)
      refine VRow.of ((hget_other (by omega)).trans (hget_put (by omega))) ?_
      (conv => whnf)
      refine VRow.of (hget_put (by simp; omega)) ?_
      (conv => whnf)
      refine hk _ r h0 hg (by omega) ?_ (by simp; omega) fun x hx => by rw [hget_other (by omega), hget_other (by omega), c5 x (by omega), g0 x hx]
      rw [hget_other (by omega), hget_other (by omega), c2, htail]
    · (conv => whnf)
      obtain ⟨b1, b2, r, b3, b4, b5, b6⟩ := hB
      refine VRow.of b4 ?_
      (conv => whnf)
      refine VRow.of b5 ?_
      (conv => whnf)
      exact hk _ r h0 hg b3 b6 (by omega) fun x hx => by rw [b2 x hx, g0 x hx]
end Go.Proofs.Ytcdjkpppfghkpaa
