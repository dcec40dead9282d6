/-
  The disk, row by row: a new one; writes settle.
-/
import Derived.Test.YtcdjkpppfghkpaaDiskA
set_option linter.unusedVariables false
namespace Go.Proofs.Ytcdjkpppfghkpaa
open Go Go.Abs Go.Proofs

variable {base : Nat} {h : Heap} {L : LS} {d : DD} {K : AVal → Heap → LS → Prop}

theorem zeros_u8 (n : Nat) : zeros [.int .u8 0] n = (List.replicate n (0 : UInt8)).map ofByte := by
  induction n with
  | zero => rfl
  | succ n ih => simp [zeros, ih, List.replicate_succ, ofByte]

/-- a fresh disk -/
def DD.fresh (n l lk : Nat) : DD := ⟨-1, false, -1, List.replicate (64 * n) 0, [], n, l, lk, 0⟩

theorem new_ok {n : Nat} (hn : 1 ≤ n ∧ n ≤ 4096) (hk : ∀ h' l lk, DAt h' (.fresh n l lk) → h.length ≤ h'.length → h.length ≤ l → h.length ≤ lk → (∀ x, x < h.length → hget h' x = hget h x) → K (.tup [.ptr (some (l, 0)), .int .i64 0]) h' L) : VCall CD base 6 [.int .i64 n] h L K := by
  refine VCall.grow (fn := Try.f6) Try.func6 rfl rfl ?_
  (conv => whnf)
  refine Kcond.dec (fun h0 => absurd h0 (by omega)) (fun h0 => ?_)
  (conv => whnf)
  refine Kcond.dec (fun h1 => absurd h1 (by omega)) (fun h1 => ?_)
  (conv => whnf)
  refine Kwrap.fit (by omega) ?_
  (conv => whnf)
  refine VIf.of ⟨by omega, by omega, by omega, by simp; omega⟩ ?_
  (conv => whnf)
  refine VAlloc.new (by rw [zeros_u8]; simp [List.all_eq_true, ofByte, AVal.one]) ?_
  (conv => whnf)
  refine VAlloc.new rfl ?_
  (conv => whnf)
  have e : ((n : Int) * 64).toNat = 64 * n := by omega
  rw [zeros_u8, e]
  have g1 := hget_new h (some (bRow (List.replicate (64 * n) 0) false))
  have g2 := hget_new (h ++ [some (bRow (List.replicate (64 * n) 0) false)]) (some (stRow (.fresh n (h.length + 1) h.length)))
  have el : (h ++ [some (bRow (List.replicate (64 * n) 0) false)]).length = h.length + 1 := by simp
  rw [el] at g2
  have D0 : DAt (h ++ [some (bRow (List.replicate (64 * n) 0) false)] ++ [some (stRow (.fresh n (h.length + 1) h.length))]) (.fresh n (h.length + 1) h.length) := by
    constructor
    · exact g2
    · show hget _ h.length = _
      rw [hget_old (by simp), g1]; rfl
    · intro hq; exact absurd rfl hq
    · intro x hx; cases hx
    · intro x hx; cases hx
    · simp [DD.fresh]
    · intro hq; exact absurd rfl hq
    · intro x hx; cases hx
    · simp [DD.fresh]
    · exact hn
    · simp [DD.fresh]
    · simp [DD.fresh]
    · simp [DD.fresh]
  have := hk _ (h.length + 1) h.length D0 (by simp <;> omega) (by omega) (by omega) fun x hx => by rw [hget_old (by simp <;> omega), hget_old hx]
  simpa [stRow, bRow, DD.fresh, qval] using this

/-! ### settle -/
structure SE where
  a : Int
  r : Nat
  cap : Option Nat
  b : List UInt8
def scells (es : List SE) : List AVal := es.flatMap fun x => [.int .i64 x.a, .own x.r 0 x.b.length x.cap]
theorem scells_len (es : List SE) : (scells es).length = 2 * es.length := by
  induction es with
  | nil => rfl
  | cons x es ih => simp only [scells, List.flatMap_cons, List.length_append, List.length_cons, List.length_nil] at ih ⊢; omega
def patch (k : List UInt8) (o : Nat) (b : List UInt8) : List UInt8 := k.take o ++ b ++ k.drop (o + b.length)
def settled (k : List UInt8) (es : List SE) : List UInt8 := es.foldl (fun k x => patch k (64 * x.a.toNat) x.b) k

theorem patch_len {k b : List UInt8} {o : Nat} (h : o + b.length ≤ k.length) : (patch k o b).length = k.length := by
  simp [patch]; omega
theorem settled_snoc (k : List UInt8) (es : List SE) (x : SE) : settled k (es ++ [x]) = patch (settled k es) (64 * x.a.toNat) x.b := by simp [settled]
/-- a list of writes, as a slice holds them -/
inductive SV (h : Heap) (es : List SE) : AVal → Prop
  | nil : es = [] → SV h es (.lst true [])
  | own {l off : Nat} {cap : Option Nat} {b : Blk} : hget h l = some b → off + 2 * es.length ≤ b.cells.length → (b.cells.drop off).take (2 * es.length) = scells es → SV h es (.own l off es.length cap)

def EOK (h : Heap) (d : DD) (es : List SE) : Prop := ∀ x, x ∈ es → 0 ≤ x.a ∧ x.a < d.n ∧ x.b.length ≤ 64 ∧ x.r ≠ d.lk ∧ ∃ b, hget h x.r = some b ∧ b.cells.take x.b.length = x.b.map ofByte

theorem DAt.keep (hd : DAt h d) {h' : Heap} {kept : List UInt8} (hk : kept.length = d.kept.length) (h1 : hget h' d.lk = some (bRow kept false)) (h2 : ∀ x, x < h.length → x ≠ d.lk → hget h' x = hget h x) (h3 : h.length ≤ h'.length) :
    DAt h' { d with kept := kept } ∧ Frame h d h' { d with kept := kept } := by
  refine ⟨⟨?_, h1, fun hq => ?_, fun x hx => ?_, hd.el, hd.kl, hd.ql, hd.er, hk.trans hd.sz, hd.nn, hd.lf, hd.bl, hd.qb⟩, ⟨h3, fun x hx ho => h2 x hx fun e => ho (.inr (.inl e)), fun x hx => .inl hx⟩⟩
  · show hget h' d.l = some (stRow { d with kept := kept })
    rw [h2 _ (hget_lt hd.st) hd.kl, hd.st]
    simp only [stRow, hk]; rfl
  · exact (h2 _ (hget_lt (hd.qu hq)) (hd.ql hq).2).trans (hd.qu hq)
  · exact (h2 _ (hget_lt (hd.en x hx)) (hd.er x hx).2.1).trans (hd.en x hx)

theorem settle_ok (hd : DAt h d) {es : List SE} {v : AVal} (hv : SV h es v) (hl : ∀ l off n c, v = .own l off n c → l ≠ d.lk) (he : EOK h d es) (hlen : es.length ≤ 1048576)
    (hk : ∀ h', DAt h' { d with kept := settled d.kept es } → Frame h d h' { d with kept := settled d.kept es } → K (.tup []) h' L) : VCall CD 0 32 [.ptr (some (d.l, 0)), v] h L K := by
  refine VCall.full (fn := Try.f32) Try.func32 rfl rfl ?_
  cases hv with
  | nil h0 =>
    subst h0
    (conv => whnf)
    refine VLoop.inv (fun _ e h' L' => h' = h ∧ L' = L ∧ ∃ e0, e = put (put e0 7 (.int .i64 0)) 8 (.int .i64 0)) ?_ (k := 0) ⟨rfl, rfl, _, put_eq2 rfl rfl⟩
    rintro k e h' L' ⟨rfl, rfl, e0, rfl⟩
    (conv => whnf)
    exact hk _ hd .refl
  | @own l off cap b h1 h2 h3 =>
    (conv => whnf)
    refine VLoop.inv (fun k e h' L' => L' = L ∧ ∃ e0 done rest, es = done ++ rest ∧ rest.length = k ∧ e = put (put (put (put e0 0 (.ptr (some (d.l, 0)))) 6 (.own l off es.length cap)) 7 (.int .i64 es.length)) 8 (.int .i64 done.length) ∧
      (settled d.kept done).length = d.kept.length ∧ hget h' d.lk = some (bRow (settled d.kept done) false) ∧ (∀ x, x < h.length → x ≠ d.lk → hget h' x = hget h x) ∧ h.length ≤ h'.length) ?_ (k := es.length) ⟨rfl, _, [], es, rfl, rfl, put_eq4 rfl rfl rfl rfl, rfl, hd.kp, fun _ _ _ => rfl, Nat.le_refl _⟩
    rintro k e h' L' ⟨rfl, e0, done, rest, rfl, rfl, rfl, k1, k2, k3, k4⟩
    (conv => whnf)
    refine Kcond.dec (fun hc => ?_) (fun hc => ?_)
    · cases rest with
      | nil => simp at hc
      | cons x rest =>
        have hx := he x (by simp)
        obtain ⟨x1, x2, x3, x4, bx, x5, x6⟩ := hx
        have hlt := hget_lt h1
        (conv => whnf)
        refine VIf.of (by simp; omega) ?_
        (conv => whnf)
        refine VRow.of ((k3 l hlt (hl _ _ _ _ rfl)).trans h1) ?_
        have hcell : (b.cells.drop (off + (done.length : Int).toNat * 2)).take 2 = [.int .i64 x.a, .own x.r 0 x.b.length x.cap] := by
          have : ((b.cells.drop off).take (2 * (done ++ x :: rest).length)).drop (2 * done.length) = (scells (done ++ x :: rest)).drop (2 * done.length) := by rw [h3]
          rw [show scells (done ++ x :: rest) = scells done ++ ([.int .i64 x.a, .own x.r 0 x.b.length x.cap] ++ scells rest) by simp [scells], ← scells_len done, List.drop_left, scells_len, List.drop_take, List.drop_drop] at this
          have h2' := congrArg (List.take 2) this
          rw [List.take_take] at h2'
          simp at h2'
          rw [show (done.length : Int).toNat * 2 = 2 * done.length by omega]
          rw [← h2']
          congr 1
          omega
        refine Kopt.of (loadAV_agg (m := 2) rfl rfl hcell rfl) ?_
        (conv => whnf)
        refine VAlloc.new rfl ?_
        (conv => whnf)
        refine VWrite.to (b' := ⟨[.int .i64 x.a, .own x.r 0 x.b.length x.cap], 64, false⟩) (hget_new _ _) (Nat.zero_le _) rfl rfl rfl ?_
        rw [set_new]
        (conv => whnf)
        refine VIf.of (by decide +kernel) ?_
        (conv => whnf)
        refine VIf.of (fun h0 => absurd h0 (by simp)) ?_
        (conv => whnf)
        refine VRow.of ((hget_rep _ _ _).trans (hget_new _ _)) ?_
        (conv => whnf)
        obtain ⟨q1, q2⟩ := hd.keep k1 k2 k3 k4
        refine lasting_ok (q1.frame fun y hy => ?_) x1 x2 ?_
        · rw [hget_rep, hget_old (q1.lt hy)]
        (conv => whnf)
        refine VIf.of (by simp <;> omega) ?_
        (conv => whnf)
        refine VIf.of (fun h0 => absurd h0 (by simp)) ?_
        (conv => whnf)
        refine VRow.of ((hget_rep _ _ _).trans (hget_new _ _)) ?_
        (conv => whnf)
        have hkl : (settled d.kept done).length = 64 * d.n := k1.trans hd.sz
        have hlk : d.lk < h'.length := q1.lt (.inr (.inl rfl))
        have e8 : AVal.int .i64 ((done.length : Int) + 1) = .int .i64 ((done ++ [x]).length : Int) := by simp
        have hsrc : srcCells (h' ++ [some ⟨[.int .i64 x.a, .own x.r 0 x.b.length x.cap], 64, false⟩] ++ List.replicate 7 none) 1 (min x.b.length 64) (.own x.r 0 x.b.length x.cap) = some (x.b.map ofByte) := by
          have hxr : x.r < h.length := hget_lt x5
          simp only [srcCells, hget_rep]
          rw [hget_old (by omega), k3 _ hxr x4, x5]
          have := congrArg List.length x6
          simp at this
          simp only [Nat.min_eq_left x3, Nat.mul_one, Nat.zero_add, Nat.le_refl, true_and, List.drop_zero]
          rw [if_pos (by omega), x6]
        refine VB.copy (et := 5) (size := 1) rfl rfl rfl hsrc (b' := bRow (patch (settled d.kept done) (64 * x.a.toNat) x.b) false) ((hget_rep _ _ _).trans ((hget_old (q1.lt (.inr (.inl rfl)))).trans k2)) (Nat.zero_le _) ?_ (ofBytes_one _) ?_ ?_
        · simp [bRow, hkl]; omega
        · simp [bRow, patch, splice, List.map_take, List.map_drop]
        (conv => whnf)
        refine Kwrap.fit ?_ ?_
        · simp at hlen ⊢; omega
        (conv => whnf)
        refine ⟨rest.length, by simp, rfl, _, done ++ [x], rest, by simp, rfl, put_eq4 rfl rfl rfl e8, ?_, ?_, ?_, ?_⟩
        · rw [settled_snoc, patch_len (by omega)]; exact k1
        · rw [hget_put (by simp; omega), settled_snoc]
        · intro y hy hne
          rw [hget_other hne, hget_rep, hget_old (by omega), k3 y hy hne]
        · simp; omega
    · (conv => whnf)
      have : rest = [] := by
        cases rest with
        | nil => rfl
        | cons x rest => simp at hc; omega
      subst this
      rw [List.append_nil] at hk
      obtain ⟨q1, q2⟩ := hd.keep k1 k2 k3 k4
      exact hk _ q1 q2
end Go.Proofs.Ytcdjkpppfghkpaa
