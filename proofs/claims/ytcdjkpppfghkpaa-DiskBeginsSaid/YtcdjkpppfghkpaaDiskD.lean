/-
  The disk: syncs, crashes, images.
-/
import Derived.Test.YtcdjkpppfghkpaaDiskC
set_option linter.unusedVariables false
set_option linter.unusedSimpArgs false
namespace Go.Proofs.Ytcdjkpppfghkpaa
open Go Go.Abs Go.Proofs

variable {base : Nat} {h : Heap} {L : LS} {d : DD} {K : AVal → Heap → LS → Prop}

def settledA (k : List UInt8) (q : List (Int × List UInt8)) : List UInt8 := q.foldl (fun k x => patch k (64 * x.1.toNat) x.2) k
def AD.sync (a : AD) : Int × AD := if a.went.gone = true then (11, a.went) else (0, { a.went with kept := settledA a.kept a.q, q := [] })
def QE.se (x : QE) : SE := ⟨x.a, x.r, none, x.b⟩

theorem settled_q (k : List UInt8) (q : List QE) : settled k (q.map QE.se) = settledA k (q.map fun x => (x.a, x.b)) := by
  unfold settled settledA
  rw [List.foldl_map, List.foldl_map]
  rfl

theorem qcells_se {d : DD} (q : List QE) (hq : ∀ x, x ∈ q → x.b.length = 64) : qcells q = scells (q.map QE.se) := by
  induction q with
  | nil => rfl
  | cons x q ih =>
    have := ih fun y hy => hq y (List.mem_cons_of_mem _ hy)
    have h1 := hq x (List.mem_cons_self ..)
    simp only [qcells, scells, List.flatMap_cons, List.map_cons] at this ⊢
    rw [this]
    simp [QE.se, h1]

theorem take_map_len (bs : List UInt8) : (bs.map ofByte).take bs.length = bs.map ofByte := List.take_of_length_le (by simp)

theorem DAt.eok (hd : DAt h d) {q : List QE} (hq : ∀ x, x ∈ q → x ∈ d.q) : EOK h d (q.map QE.se) := by
  intro x hx
  obtain ⟨y, hy, rfl⟩ := List.mem_map.1 hx
  have h1 := hd.el y (hq y hy)
  have h2 := hd.er y (hq y hy)
  refine ⟨h1.2.1, h1.2.2, by simp [QE.se]; omega, h2.2.1, _, hd.en y (hq y hy), ?_⟩
  show (y.b.map ofByte).take y.b.length = y.b.map ofByte
  exact take_map_len _

theorem DAt.sv (hd : DAt h d) : SV h (d.q.map QE.se) (qval d) := by
  unfold qval
  rcases hqq : d.q with _ | ⟨x, q⟩
  · exact .nil rfl
  · have hn : d.q ≠ [] := by rw [hqq]; simp
    have := hd.qu hn
    have e := qcells_se (d := d) d.q fun x hx => (hd.el x hx).1
    have hl : d.q.length = (d.q.map QE.se).length := by simp
    simp only
    rw [← hqq, hl]
    refine .own this ?_ ?_
    · rw [e, scells_len]; simp
    · rw [e, List.drop_zero, ← scells_len, List.take_length]

theorem qcells_at {q : List QE} {k : Nat} {w : QE} (hw : q[k]? = some w) : ((qcells q).drop (k * 2)).take 2 = [.int .i64 w.a, .own w.r 0 64 none] := by
  induction q generalizing k with
  | nil => simp at hw
  | cons x q ih =>
    have e : qcells (x :: q) = [.int .i64 x.a, .own x.r 0 64 none] ++ qcells q := by simp [qcells]
    cases k with
    | zero => simp at hw; subst hw; rw [e]; rfl
    | succ k =>
      simp at hw
      rw [e, show (k + 1) * 2 = (k * 2 + 1) + 1 by omega]
      simp only [List.cons_append, List.nil_append, List.drop_succ_cons]
      exact ih hw

theorem DAt.svk (hd : DAt h d) (hn : d.q ≠ []) {k : Nat} (hk : k ≤ d.q.length) : SV h ((d.q.take k).map QE.se) (.own d.lq 0 k none) := by
  have := hd.qu hn
  have e := qcells_se (d := d) d.q fun x hx => (hd.el x hx).1
  have hl : k = ((d.q.take k).map QE.se).length := by simp; omega
  have e2 : qcells (d.q.take k) = scells ((d.q.take k).map QE.se) := qcells_se (d := d) _ fun x hx => (hd.el x (List.mem_of_mem_take hx)).1
  have e3 : (qcells d.q).take (2 * k) = qcells (d.q.take k) := by
    have : qcells d.q = qcells (d.q.take k) ++ qcells (d.q.drop k) := by
      have h3 : qcells (d.q.take k ++ d.q.drop k) = qcells (d.q.take k) ++ qcells (d.q.drop k) := by simp only [qcells, List.flatMap_append]
      rwa [List.take_append_drop] at h3
    rw [this, ← show (qcells (d.q.take k)).length = 2 * k by rw [qcells_len, List.length_take]; omega, List.take_left]
  have : SV h ((d.q.take k).map QE.se) (.own d.lq 0 ((d.q.take k).map QE.se).length none) := by
    refine .own this ?_ ?_
    · rw [qcells_len, ← hl]; omega
    · rw [List.drop_zero, ← hl, e3, e2]
  rwa [← hl] at this

/-- the queue is emptied -/
theorem DAt.empty (hd : DAt h d) {left : Int} {gone : Bool} (hl : -1 ≤ left ∧ left < 9223372036854775808) : DAt (h.set d.l (some (stRow { d with q := [], left := left, gone := gone }))) { d with q := [], left := left, gone := gone } ∧ Frame h d (h.set d.l (some (stRow { d with q := [], left := left, gone := gone }))) { d with q := [], left := left, gone := gone } := by
  have hlt := hget_lt hd.st
  refine ⟨⟨hget_put hlt, ?_, fun hq => absurd rfl hq, fun x hx => (by cases hx), fun x hx => (by cases hx), hd.kl, fun hq => absurd rfl hq, fun x hx => (by cases hx), hd.sz, hd.nn, hl, hd.bl, by simp⟩, ⟨by simp, fun x hx ho => hget_other fun e => ho (.inl e), fun x hx => ?_⟩⟩
  · rw [hget_other (Ne.symm hd.kl)]; exact hd.kp
  · rcases hx with rfl | rfl | ⟨hq, _⟩ | ⟨e, he, _⟩
    · exact .inl (.inl rfl)
    · exact .inl (.inr (.inl rfl))
    · exact absurd rfl hq
    · cases he

theorem sync_ok (hd : DAt h d) (hk : ∀ h' d', DAt h' d' → d'.l = d.l → d'.abs = d.abs.sync.2 → Frame h d h' d' → K (.int .i64 d.abs.sync.1) h' L) : VCall CD 0 18 [.ptr (some (d.l, 0))] h L K := by
  refine VCall.full (fn := Try.f18) Try.func18 rfl rfl ?_
  have hn := hd.nn
  (conv => whnf)
  refine sectors_ok hd ?_
  (conv => whnf)
  refine Kcond.eqI (fun h0 => absurd h0 (by omega)) (fun h0 => ?_)
  (conv => whnf)
  refine goes_ok hd fun q1 q2 => ?_
  (conv => whnf)
  refine Kcond.not (Kcond.not (Kcond.by (fun h2 => ?_) (fun h2 => ?_)))
  · (conv => whnf)
    have e : d.abs.sync = (11, d.abs.went) := if_pos h2
    have := hk _ _ q1 rfl (by rw [e]; rfl) q2
    rwa [e] at this
  obtain ⟨G, hG⟩ : ∃ G, G = h.set d.l (some (stRow d.went)) := ⟨_, rfl⟩
  rw [← hG] at q1 q2 ⊢
  have e : d.abs.sync = (0, { d.abs.went with kept := settledA d.abs.kept d.abs.q, q := [] }) := if_neg (by rw [← went_abs]; intro hh; rw [show d.went.abs.gone = d.went.gone from rfl] at hh; rw [hh] at h2; cases h2)
  rw [e] at hk
  (conv => whnf)
  refine VRow.of q1.st ?_
  have key : ∀ v, qval d.went = v → (∀ {K : AVal → Heap → LS → Prop}, (∀ h', DAt h' { d.went with kept := settled d.went.kept (d.went.q.map QE.se) } → Frame G d.went h' { d.went with kept := settled d.went.kept (d.went.q.map QE.se) } → K (.tup []) h' L) → VCall CD 0 32 [.ptr (some (d.l, 0)), v] G L K) := by
    intro v hv K hk
    have sv := q1.sv
    rw [hv] at sv
    refine settle_ok q1 sv (fun l off n c e => ?_) (q1.eok fun _ hx => hx) (by simpa using q1.qb) hk
    rw [← hv] at e
    unfold qval at e
    rcases hqq : d.went.q with _ | ⟨x, q⟩
    · rw [hqq] at e; cases e
    · rw [hqq] at e
      simp at e
      rw [← e.1]
      exact (q1.ql (by rw [hqq]; simp)).2
  have tail : ∀ h', DAt h' { d.went with kept := settled d.went.kept (d.went.q.map QE.se) } → Frame G d.went h' { d.went with kept := settled d.went.kept (d.went.q.map QE.se) } → K (.int .i64 0) (h'.set d.l (some (stRow { d.went with kept := settled d.went.kept (d.went.q.map QE.se), q := [] }))) L := by
    intro h' r1 r2
    obtain ⟨s1, s2⟩ := r1.empty (left := d.went.left) (gone := d.went.gone) r1.lf
    refine hk _ _ s1 rfl ?_ (q2.trans (r2.trans s2))
    simp [DD.abs, AD.went, DD.went, settled_q]
  rcases hqq : d.q with _ | ⟨x0, qs⟩
  · have hv : qval d.went = .lst true [] := by simp [qval, show d.went.q = d.q from rfl, hqq]
    unfold stRow
    rw [hv]
    (conv => whnf)
    refine key _ hv fun h' r1 r2 => ?_
    (conv => whnf)
    refine VWrite.to (b' := stRow { d.went with kept := settled d.went.kept (d.went.q.map QE.se), q := [] }) r1.st (Nat.zero_le _) rfl rfl ?_ ?_
    · simp [stRow, splice, qval]
    (conv => whnf)
    exact tail h' r1 r2
  · have hv : qval d.went = .own d.lq 0 d.q.length none := by simp [qval, show d.went.q = d.q from rfl, hqq]; rfl
    unfold stRow
    rw [hv]
    (conv => whnf)
    refine key _ hv fun h' r1 r2 => ?_
    (conv => whnf)
    refine VWrite.to (b' := stRow { d.went with kept := settled d.went.kept (d.went.q.map QE.se), q := [] }) r1.st (Nat.zero_le _) rfl rfl ?_ ?_
    · simp [stRow, splice, qval]
    (conv => whnf)
    exact tail h' r1 r2

theorem image_ok (hd : DAt h d) (hk : ∀ h' r, h.length ≤ r → hget h' r = some (bRow d.kept true) → h.length ≤ h'.length → (∀ x, x < h.length → hget h' x = hget h x) → K (.own r 0 d.kept.length none) h' L) : VCall CD base 15 [.ptr (some (d.l, 0))] h L K := by
  refine VCall.grow (fn := Try.f15) Try.func15 rfl rfl ?_
  have hsz := hd.sz
  have hnn := hd.nn
  (conv => whnf)
  refine VRow.of hd.st ?_
  (conv => whnf)
  refine clone_ok (bs := d.kept) (.own hd.kp (by simp [bRow]) (by simp only [bRow, List.drop_zero]; exact take_map_len _)) (by intro hh; rw [hh] at hsz; simp at hsz; omega) (by omega) fun h' r c1 c2 c3 c4 => ?_
  (conv => whnf)
  exact hk h' r c1 c2 c3 c4

def AD.crash (a : AD) (keep torn : Int) : AD :=
  let k := (min (max keep 0) a.q.length).toNat
  let kept := settledA a.kept (a.q.take k)
  { a with
    kept := match a.q[k]? with
      | some w => patch kept (64 * w.1.toNat) (w.2.take (min (max torn 0) 64).toNat)
      | none => kept
    q := [], gone := false, left := -1 }

theorem ite_max (z y : Int) : (if y > z then y else z) = max z y := by omega
theorem ite_min (z y : Int) : (if y < z then y else z) = min z y := by omega

theorem crash_ok (hd : DAt h d) (keep torn : Int) (hk : ∀ h' d', DAt h' d' → d'.l = d.l → d'.abs = d.abs.crash keep torn → Frame h d h' d' → K (.tup []) h' L) : VCall CD 0 20 [.ptr (some (d.l, 0)), .int .i64 keep, .int .i64 torn] h L K := by
  refine VCall.full (fn := Try.f20) Try.func20 rfl rfl ?_
  have hn := hd.nn
  (conv => whnf)
  refine sectors_ok hd ?_
  (conv => whnf)
  refine Kcond.eqI (fun h0 => absurd h0 (by omega)) (fun h0 => ?_)
  (conv => whnf)
  refine VRow.of hd.st ?_
  unfold stRow
  have done : ∀ {h2 : Heap} {d2 : DD}, DAt h2 d2 → Frame h d h2 d2 → d2.l = d.l → d2.below = d.below → d2.n = d.n → d2.kept = (d.abs.crash keep torn).kept → K (.tup []) (h2.set d.l (some (stRow { d2 with q := [], left := -1, gone := false }))) L := by
    intro h2 d2 r1 r2 e1 e2 e3 e4
    obtain ⟨s1, s2⟩ := r1.empty (left := -1) (gone := false) (by omega)
    rw [e1] at s1 s2
    refine hk _ _ s1 rfl ?_ (r2.trans s2)
    unfold AD.crash at e4 ⊢
    simp only [DD.abs, e2, e3, e4]
    rfl
  rcases hqq : d.q with _ | ⟨x0, qs⟩
  · have hv : qval d = .lst true [] := by simp [qval, hqq]
    have hst := hd.st
    unfold stRow at hst
    rw [hv] at hst ⊢
    (conv => whnf)
    refine VRow.of hst ?_
    (conv => whnf)
    refine VIf.of ⟨by omega, by simp only [List.length_nil]; omega, by simp only [List.length_nil]; omega⟩ (VIf.of (.inl rfl) ?_)
    rw [List.take_nil, List.drop_nil]
    (conv => whnf)
    refine settle_ok hd (.nil rfl) (fun l off n c e => by cases e) (fun x hx => by cases hx) (by simp) fun h2 r1 r2 => ?_
    have r1 : DAt h2 d := r1
    (conv => whnf)
    have hst2 := r1.st
    unfold stRow at hst2
    rw [hv] at hst2
    refine VRow.of hst2 ?_
    (conv => whnf)
    refine Kcond.dec (fun hc => absurd hc (by simp only [List.length_nil]; omega)) (fun hc => ?_)
    (conv => whnf)
    refine VWrite.to (b' := stRow { d with q := [] }) hst2 (Nat.zero_le _) rfl rfl (by simp [stRow, splice, qval]) ?_
    have hlt := hget_lt hst2
    (conv => whnf)
    refine VWrite.to (b' := stRow { d with q := [], gone := false }) (hget_put hlt) (Nat.zero_le _) rfl rfl (by simp [stRow, splice, qval]) ?_
    rw [List.set_set]
    (conv => whnf)
    refine VWrite.to (b' := stRow { d with q := [], gone := false, left := -1 }) (hget_put hlt) (Nat.zero_le _) rfl rfl (by simp [stRow, splice, qval]) ?_
    rw [List.set_set]
    (conv => whnf)
    exact done r1 r2 rfl rfl rfl (by simp [AD.crash, DD.abs, hqq, settledA])
  · have hv : qval d = .own d.lq 0 d.q.length none := by simp [qval, hqq]
    have hst := hd.st
    unfold stRow at hst
    rw [hv] at hst ⊢
    have hqn : d.q ≠ [] := by rw [hqq]; simp
    have hlq := hd.lt (.inr (.inr (.inl ⟨hqn, rfl⟩)))
    (conv => whnf)
    refine VRow.of hst ?_
    (conv => whnf)
    refine VIf.of ⟨by omega, by omega, by omega⟩ ?_
    (conv => whnf)
    obtain ⟨kk, hkk⟩ : ∃ kk : Int, kk = (if (d.q.length : Int) < if 0 > keep then 0 else keep then (d.q.length : Int) else if 0 > keep then 0 else keep) := ⟨_, rfl⟩
    rw [← hkk]
    have hk1 : 0 ≤ kk ∧ kk ≤ d.q.length ∧ kk = min (max keep 0) d.q.length := by omega
    have hsv := hd.svk hqn (k := kk.toNat) (by omega)
    refine settle_ok hd (es := (d.q.take kk.toNat).map QE.se) (by simpa using hsv) (fun l off n c e => ?_) (hd.eok fun x hx => List.mem_of_mem_take hx) (by have := hd.qb; simp; omega) fun h2 r1 r2 => ?_
    · simp at e; rw [← e.1]; exact (hd.ql hqn).2
    (conv => whnf)
    have hst2 := r1.st
    have hst2 : hget h2 d.l = some ⟨[.int .i64 d.left, .bool d.gone, .int .i64 d.below, .own d.lk 0 (settled d.kept ((d.q.take kk.toNat).map QE.se)).length (some (settled d.kept ((d.q.take kk.toNat).map QE.se)).length), .own d.lq 0 d.q.length none], 56, false⟩ := by
      rw [hst2]; simp only [stRow, qval, hqq]
    refine VRow.of hst2 ?_
    (conv => whnf)
    have ek : (min (max keep 0) d.abs.q.length).toNat = kk.toNat := by simp [DD.abs]; omega
    have eq1 : d.abs.q = d.q.map fun x => (x.a, x.b) := rfl
    refine Kcond.dec (fun hc => ?_) (fun hc => ?_)
    · obtain ⟨w, hw⟩ : ∃ w, d.q[kk.toNat]? = some w := ⟨_, List.getElem?_eq_getElem (by omega)⟩
      have hwm : w ∈ d.q := List.mem_of_getElem? hw
      (conv => whnf)
      refine VRow.of hst2 ?_
      (conv => whnf)
      refine VIf.of ⟨by omega, by omega⟩ ?_
      (conv => whnf)
      refine VRow.of (r1.qu hqn) ?_
      refine Kopt.of (loadAV_agg (m := 2) (vs := [.int .i64 w.a, .own w.r 0 64 none]) rfl rfl (by rw [Nat.zero_add]; exact qcells_at hw) rfl) ?_
      (conv => whnf)
      refine VAlloc.new rfl ?_
      (conv => whnf)
      refine VWrite.to (b' := ⟨[.int .i64 w.a, .own w.r 0 64 none], 64, false⟩) (hget_new _ _) (Nat.zero_le _) rfl rfl rfl ?_
      rw [set_new]
      (conv => whnf)
      refine VIf.of (by decide +kernel) ?_
      (conv => whnf)
      refine VIf.of (fun h0 => absurd h0 (by simp)) ?_
      (conv => whnf)
      refine VRow.of ((hget_rep _ _ _).trans (hget_new _ _)) ?_
      (conv => whnf)
      refine VIf.of (fun h0 => absurd h0 (by simp)) ?_
      (conv => whnf)
      refine VRow.of ((hget_rep _ _ _).trans (hget_new _ _)) ?_
      (conv => whnf)
      refine VIf.of ⟨by omega, by omega, by omega⟩ ?_
      (conv => whnf)
      obtain ⟨tt, htt⟩ : ∃ tt : Int, tt = (if (64 : Int) < if 0 > torn then 0 else torn then (64 : Int) else if 0 > torn then 0 else torn) := ⟨_, rfl⟩
      rw [← htt]
      have ht1 : 0 ≤ tt ∧ tt ≤ 64 ∧ tt = min (max torn 0) 64 := by omega
      obtain ⟨G, hG⟩ : ∃ G, G = h2 ++ [some ⟨[.int .i64 w.a, .own w.r 0 64 none], 64, false⟩] := ⟨_, rfl⟩
      rw [← hG]
      have hGl : G.length = h2.length + 1 := by rw [hG]; simp
      have hG2 : ∀ x, x < h2.length → hget G x = hget h2 x := fun x hx => by rw [hG]; exact hget_old hx
      refine VAlloc.at rfl (rep_at _ _ _ (by omega)) ?_
      (conv => whnf)
      refine VRow.of (hget_put (by simp)) ?_
      (conv => whnf)
      have hwe := hd.el w hwm
      have hwr := hd.er w hwm
      obtain ⟨G1, hG1⟩ : ∃ G1, G1 = (G ++ List.replicate 12 none).set (G.length + 10) (some ⟨[.int .i64 w.a, .own w.r (0 + Int.toNat 0 * 1) (tt.toNat - Int.toNat 0) none], 64, false⟩) := ⟨_, rfl⟩
      rw [← hG1]
      have hG1l : G1.length = h2.length + 13 := by rw [hG1]; simp; omega
      have hG3 : ∀ x, x < h2.length → hget G1 x = hget h2 x := fun x hx => by rw [hG1, hget_other (by omega), hget_rep, hG2 x hx]
      have r3 : DAt G1 { d with kept := settled d.kept ((d.q.take kk.toNat).map QE.se) } := r1.frame fun x hx => hG3 x (r1.lt hx)
      have hlk : d.lk < h2.length := r1.lt (.inr (.inl rfl))
      refine settle_ok r3 (es := [⟨w.a, w.r, none, w.b.take tt.toNat⟩]) (.own (b := ⟨[.int .i64 w.a, .own w.r (0 + Int.toNat 0 * 1) (tt.toNat - Int.toNat 0) none], 64, false⟩) (by rw [hG1]; exact hget_put (by simp)) (by simp) ?_) (fun l off n c e => ?_) (fun x hx => ?_) (by simp) fun h3 r4 r5 => ?_
      · simp [scells, hwe.1]; omega
      · simp at e; rw [← e.1]; show G.length + 10 ≠ d.lk; omega
      · simp at hx; subst hx
        refine ⟨hwe.2.1, hwe.2.2, by simp; omega, hwr.2.1, _, r3.en w hwm, ?_⟩
        simp [bRow, hwe.1, List.map_take]
      (conv => whnf)
      have hst3 : hget h3 d.l = some ⟨[.int .i64 d.left, .bool d.gone, .int .i64 d.below, .own d.lk 0 (settled (settled d.kept ((d.q.take kk.toNat).map QE.se)) [⟨w.a, w.r, none, w.b.take tt.toNat⟩]).length (some (settled (settled d.kept ((d.q.take kk.toNat).map QE.se)) [⟨w.a, w.r, none, w.b.take tt.toNat⟩]).length), .own d.lq 0 d.q.length none], 56, false⟩ := by
        have := r4.st
        rw [this]; simp only [stRow, qval, hqq]
      refine VWrite.to (b' := stRow { d with kept := settled (settled d.kept ((d.q.take kk.toNat).map QE.se)) [⟨w.a, w.r, none, w.b.take tt.toNat⟩], q := [] }) hst3 (Nat.zero_le _) rfl rfl (by simp [stRow, splice, qval]) ?_
      have hlt := hget_lt hst3
      (conv => whnf)
      refine VWrite.to (b' := stRow { d with kept := settled (settled d.kept ((d.q.take kk.toNat).map QE.se)) [⟨w.a, w.r, none, w.b.take tt.toNat⟩], q := [], gone := false }) (hget_put hlt) (Nat.zero_le _) rfl rfl (by simp [stRow, splice, qval]) ?_
      rw [List.set_set]
      (conv => whnf)
      refine VWrite.to (b' := stRow { d with kept := settled (settled d.kept ((d.q.take kk.toNat).map QE.se)) [⟨w.a, w.r, none, w.b.take tt.toNat⟩], q := [], gone := false, left := -1 }) (hget_put hlt) (Nat.zero_le _) rfl rfl (by simp [stRow, splice, qval]) ?_
      rw [List.set_set]
      (conv => whnf)
      have fr : Frame h d G1 { d with kept := settled d.kept ((d.q.take kk.toNat).map QE.se) } := ⟨by have := r2.len; omega, fun x hx ho => by have := r2.len; rw [hG3 x (by omega), r2.old x hx ho], r2.new⟩
      refine done r4 (fr.trans r5) rfl rfl rfl ?_
      simp only [AD.crash, ek]
      rw [eq1, List.getElem?_map, hw]
      simp only [Option.map_some]
      rw [show [(⟨w.a, w.r, none, w.b.take tt.toNat⟩ : SE)] = [] ++ [⟨w.a, w.r, none, w.b.take tt.toNat⟩] from rfl, settled_snoc, settled_q, List.map_take]
      rw [show (min (max torn 0) 64).toNat = tt.toNat by omega]
      rfl
    · (conv => whnf)
      refine VWrite.to (b' := stRow { d with kept := settled d.kept ((d.q.take kk.toNat).map QE.se), q := [] }) hst2 (Nat.zero_le _) rfl rfl (by simp [stRow, splice, qval]) ?_
      have hlt := hget_lt hst2
      (conv => whnf)
      refine VWrite.to (b' := stRow { d with kept := settled d.kept ((d.q.take kk.toNat).map QE.se), q := [], gone := false }) (hget_put hlt) (Nat.zero_le _) rfl rfl (by simp [stRow, splice, qval]) ?_
      rw [List.set_set]
      (conv => whnf)
      refine VWrite.to (b' := stRow { d with kept := settled d.kept ((d.q.take kk.toNat).map QE.se), q := [], gone := false, left := -1 }) (hget_put hlt) (Nat.zero_le _) rfl rfl (by simp [stRow, splice, qval]) ?_
      rw [List.set_set]
      (conv => whnf)
      refine done r1 r2 rfl rfl rfl ?_
      simp only [AD.crash, ek]
      rw [eq1, List.getElem?_eq_none (by simp; omega)]
      rw [settled_q, List.map_take]
      rfl
end Go.Proofs.Ytcdjkpppfghkpaa
