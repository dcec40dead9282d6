/-
  The law DiskBegins, over the machine of values: it answers true.
-/
import Derived.Test.YtcdjkpppfghkpaaDiskQ
set_option linter.unusedVariables false
set_option linter.unusedSimpArgs false
namespace Go.Proofs.Ytcdjkpppfghkpaa
open Go Go.Abs Go.Proofs

variable {base : Nat} {h : Heap} {L : LS} {d : DD} {r : RD} {K : AVal → Heap → LS → Prop}

theorem cutS_flatten {S : List (List UInt8)} {n : Nat} (hs : ∀ x, x ∈ S → x.length = 64) (hl : S.length = n) : cutS S.flatten n = S := by
  apply List.ext_getElem?
  intro i
  rcases Nat.lt_or_ge i n with h1 | h1
  · rw [cutS_at h1]
    obtain ⟨x, hx⟩ : ∃ x, S[i]? = some x := ⟨_, List.getElem?_eq_getElem (by omega)⟩
    rw [hx]
    exact congrArg some (flatten_sector hs hx)
  · rw [List.getElem?_eq_none (by rw [cutS_len]; omega), List.getElem?_eq_none (by omega)]

def wcells (w : List ActD) : List AVal := w.flatMap ActD.cells
def wq (w : List ActD) : List (Int × List UInt8) := w.map fun x => (x.n, x.b)
theorem wcells_len (w : List ActD) : (wcells w).length = 4 * w.length := by
  induction w with
  | nil => rfl
  | cons x w ih => simp only [wcells, List.flatMap_cons, List.length_append, List.length_cons, ActD.cells, List.length_nil] at ih ⊢; omega
theorem wcells_one (w : List ActD) : (wcells w).all AVal.one = true := by
  induction w with
  | nil => rfl
  | cons x w ih => simp only [wcells, List.flatMap_cons, List.all_append] at ih ⊢; rw [ih]; rfl
theorem wcells_snoc (w : List ActD) (x : ActD) : wcells (w ++ [x]) = wcells w ++ x.cells := by simp [wcells]
theorem wcells_at {w : List ActD} {k : Nat} {x : ActD} (hw : w[k]? = some x) : (wcells w).drop (k * 4) = x.cells ++ (wcells w).drop (k * 4 + 4) := by
  induction w generalizing k with
  | nil => simp at hw
  | cons y w ih =>
    have e : wcells (y :: w) = .int .i64 y.doo :: .int .i64 y.n :: .int .i64 y.m :: bytesV y.nil y.b :: wcells w := by simp [wcells, ActD.cells]
    cases k with
    | zero => simp at hw; subst hw; rw [e]; rfl
    | succ k =>
      simp at hw
      rw [e, show (k + 1) * 4 = (((k * 4 + 1) + 1) + 1) + 1 by omega]
      simp only [List.drop_succ_cons]
      exact ih hw

theorem lastS_at {S : List (List UInt8)} {w : List ActD} {k : Nat} {x : ActD} (hx : w[k]? = some x) : lastS S (wq (w.take (k + 1))) = (lastS S (wq (w.take k))).set x.n.toNat x.b := by
  rw [List.take_add_one, hx]
  simp only [wq, Option.toList_some, List.map_append, List.map_cons, List.map_nil]
  exact lastS_snoc ..

def actRow (x : ActD) : Blk := ⟨[.int .i64 x.doo, .int .i64 x.n, .int .i64 x.m, .lst x.nil (x.b.map fun b => [ofByte b])], 36, false⟩
/-- what the law holds beside the disk: its own sectors and its own row of writes -/
structure BI (h : Heap) (d : DD) (lb : Nat) (S : List (List UInt8)) (wv : AVal) (w : List ActD) : Prop where
  bs : hget h lb = some (sRow S)
  ob : ¬ own d lb
  n : S.length = 16
  s64 : ∀ x, x ∈ S → x.length = 64
  fl : S.flatten = d.kept
  q : d.abs.q = wq w
  dn : d.n = 16
  lf : d.left = -1
  gn : d.gone = false
  bl : d.below = -1
  wo : ∀ x, x ∈ w → 0 ≤ x.n ∧ x.n < 16 ∧ x.b.length = 64 ∧ (x.nil = true → x.b = [])
  wv : (w = [] ∧ wv = .lst true []) ∨ ∃ lw, w ≠ [] ∧ wv = .own lw 0 w.length none ∧ lw ≠ lb ∧ ¬ own d lw ∧ hget h lw = some ⟨wcells w, 36, true⟩

theorem BI.grow {h' : Heap} {lb : Nat} {S : List (List UInt8)} {wv : AVal} {w : List ActD} (B : BI h d lb S wv w) (hf : ∀ x, x < h.length → hget h' x = hget h x) : BI h' d lb S wv w :=
  { B with
    bs := (hf _ (hget_lt B.bs)).trans B.bs
    wv := by
      rcases B.wv with h1 | ⟨lw, h1, h2, h3, h4, h5⟩
      · exact .inl h1
      · exact .inr ⟨lw, h1, h2, h3, h4, (hf _ (hget_lt h5)).trans h5⟩ }

theorem went_id {a : AD} (hg : a.gone = false) (hl : a.left = -1) : a.went = a := by
  cases a
  simp only at hg hl
  subst hg hl
  rfl
theorem sync_awake {a : AD} (hg : a.gone = false) (hl : a.left = -1) : a.sync = (0, { a with kept := settledA a.kept a.q, q := [] }) := by
  unfold AD.sync
  rw [went_id hg hl, if_neg (by simp [hg])]
theorem write_awake {a : AD} (hg : a.gone = false) (hl : a.left = -1) (hb : a.below = -1) (i : Int) (bs : List UInt8) : a.write i bs = if ¬ (0 ≤ i ∧ i < a.n) ∨ bs.length ≠ 64 then (1, a) else (0, { a with q := a.q ++ [(i, bs)] }) := by
  unfold AD.write
  rw [went_id hg hl, if_neg (by simp [hg] : ¬ a.gone = true), if_neg (by omega : ¬ (0 ≤ a.below ∧ a.below ≤ i))]

theorem BI.wqok {lb : Nat} {S : List (List UInt8)} {wv : AVal} {w : List ActD} (B : BI h d lb S wv w) : ∀ x, x ∈ wq w → x.2.length = 64 ∧ 0 ≤ x.1 ∧ x.1 < S.length := by
  intro x hx
  simp only [wq, List.mem_map] at hx
  obtain ⟨y, hy, rfl⟩ := hx
  obtain ⟨h1, h2, h3, _⟩ := B.wo y hy
  have := B.n
  exact ⟨h3, h1, by simp only; omega⟩

theorem BI.sync {lb : Nat} {S : List (List UInt8)} {wv : AVal} {w : List ActD} {h3 h5 : Heap} {d3 : DD} (B : BI h d lb S wv w) (ea : d3.abs = d.abs.sync.2) (fr : Frame h d h3 d3) (h1 : hget h5 lb = some (sRow (lastS S (wq w)))) : BI h5 d3 lb (lastS S (wq w)) (.lst true []) [] := by
  have e := sync_awake (a := d.abs) B.gn B.lf
  rw [e] at ea
  refine ⟨h1, fun ho => ?_, (lastS_len _ _).trans B.n, lastS_64 B.s64 fun x hx => (B.wqok x hx).1, ?_, congrArg AD.q ea, (congrArg AD.n ea).trans B.dn, (congrArg AD.left ea).trans B.lf, (congrArg AD.gone ea).trans B.gn, (congrArg AD.below ea).trans B.bl, fun x hx => (by cases hx), .inl ⟨rfl, rfl⟩⟩
  · rcases fr.new _ ho with h2 | h2
    · exact B.ob h2
    · have := hget_lt B.bs; omega
  · rw [lastS_flat B.s64 B.wqok, B.fl, ← B.q]
    exact (congrArg AD.kept ea).symm

theorem BI.go {lb : Nat} {S : List (List UInt8)} {wv wv' : AVal} {w w' : List ActD} {h3 h5 : Heap} {d3 : DD} (B : BI h d lb S wv w) (fr : Frame h d h3 d3) (ea : d3.abs = { d.abs with q := wq w' }) (h1 : hget h5 lb = some (sRow S))
    (hw : ∀ x, x ∈ w' → 0 ≤ x.n ∧ x.n < 16 ∧ x.b.length = 64 ∧ (x.nil = true → x.b = [])) (hv : (w' = [] ∧ wv' = .lst true []) ∨ ∃ lw, w' ≠ [] ∧ wv' = .own lw 0 w'.length none ∧ lw ≠ lb ∧ ¬ own d3 lw ∧ hget h5 lw = some ⟨wcells w', 36, true⟩) : BI h5 d3 lb S wv' w' := by
  refine ⟨h1, fun ho => ?_, B.n, B.s64, ?_, congrArg AD.q ea, (congrArg AD.n ea).trans B.dn, (congrArg AD.left ea).trans B.lf, (congrArg AD.gone ea).trans B.gn, (congrArg AD.below ea).trans B.bl, hw, hv⟩
  · rcases fr.new _ ho with h2 | h2
    · exact B.ob h2
    · have := hget_lt B.bs; omega
  · rw [B.fl]
    exact (congrArg AD.kept ea).symm
theorem Frame.no {h3 : Heap} {d3 : DD} (fr : Frame h d h3 d3) {x : Nat} (h1 : ¬ own d x) (h2 : x < h.length) : ¬ own d3 x := fun ho => by
  rcases fr.new _ ho with h3 | h3
  · exact h1 h3
  · omega

theorem put_eq9 {e : Env} {a b c d f g x y z : AVal} {i j k l m o p q r : Nat} (h1 : e i = a) (h2 : e j = b) (h3 : e k = c) (h4 : e l = d) (h5 : e m = f) (h6 : e o = g) (h7 : e p = x) (h8 : e q = y) (h9 : e r = z) : e = put (put (put (put (put (put (put (put (put e i a) j b) k c) l d) m f) o g) p x) q y) r z := by rw [← put_eq1 h1]; exact put_eq8 h2 h3 h4 h5 h6 h7 h8 h9

theorem crash_q (a : AD) (keep torn : Int) : (a.crash keep torn).q = [] ∧ (a.crash keep torn).gone = false ∧ (a.crash keep torn).n = a.n := ⟨rfl, rfl, rfl⟩

theorem crash_kept {a : AD} {q : List (Int × List UInt8)} {keep torn : Int} {n : Nat} (hq : a.q = q) (hn : n = (min (max keep 0) q.length).toNat) : (a.crash keep torn).kept = match q[n]? with
    | some w => patch (settledA a.kept (q.take n)) (64 * w.1.toNat) (w.2.take (min (max torn 0) 64).toNat)
    | none => settledA a.kept (q.take n) := by
  subst hq; subst hn; rfl

set_option maxRecDepth 40000 in
theorem begins_ok {keep torn : Int} {l : List ActD} {b : Bool} (hb : b = true → l = []) (hl0 : ∀ x, x ∈ l → ActRd x) (hlen : l.length < 9223372036854775808) (hk : ∀ h', K (.bool true) h' []) : WF CD 0 Try.f4 [.lst b (l.map ActD.cells), .int .i64 keep, .int .i64 torn] [] [] K := by
  (conv => whnf)
  refine new_ok (n := 16) (by omega) fun h1 dl dk hd hl1 hl2 hl3 hl4 => ?_
  have el : (DD.fresh 16 dl dk).l = dl := rfl
  have en : (DD.fresh 16 dl dk).n = 16 := rfl
  have eq0 : (DD.fresh 16 dl dk).abs.q = wq [] := rfl
  have e1 : (DD.fresh 16 dl dk).left = -1 := rfl
  have e2 : (DD.fresh 16 dl dk).gone = false := rfl
  have e3 : (DD.fresh 16 dl dk).below = -1 := rfl
  have e4 : (DD.fresh 16 dl dk).kept = (List.replicate 16 zsec).flatten := (by decide +kernel : List.replicate (64 * 16) (0 : UInt8) = (List.replicate 16 zsec).flatten)
  generalize DD.fresh 16 dl dk = d at hd el en eq0 e1 e2 e3 e4
  subst el
  (conv => whnf)
  refine long_ok hb hlen fun lb hlb => ?_
  (conv => whnf)
  refine Kcond.by (fun hlt => ?_) (fun hlf => ?_)
  · (conv => whnf)
    refine awake_ok ?_
    (conv => whnf)
    exact hk _
  have hl200 := (hlb hlf).1
  have hl : ∀ x, x ∈ l → ActOK x := fun x hx => ⟨(hl0 x hx).nil, by have := (hlb hlf).2 x hx; omega, (hl0 x hx).n⟩
  (conv => whnf)
  have hdlt := fun x (hx : own d x) => hd.lt hx
  refine split_ok hd fun h2 lb s1 s2 s3 s4 => ?_
  have hd2 := hd.grow s4
  have h64 : ∀ x, x ∈ List.replicate 16 zsec → x.length = 64 := fun x hx => by rw [List.eq_of_mem_replicate hx]; rfl
  rw [en, e4, cutS_flatten h64 (List.length_replicate ..)] at s2
  rw [en]
  (conv => whnf)
  refine VLoop.invL (fun k e h' => ∃ e0 i d S wv w, i + k = l.length ∧ e = put (put (put (put (put (put (put e0 0 (.lst b (l.map ActD.cells))) 1 (.int .i64 keep)) 2 (.int .i64 torn)) 7 (.ptr (some (d.l, 0)))) 9 (.own lb 0 16 none)) 10 wv) 11 (.int .i64 i) ∧ DAt h' d ∧ BI h' d lb S wv w ∧ w.length ≤ i) ?_ (k := l.length)
    ⟨_, 0, d, List.replicate 16 zsec, _, [], by omega, put_eq7 rfl rfl rfl rfl rfl rfl rfl, hd2, ⟨s2, fun ho => by have := hdlt _ ho; omega, rfl, h64, e4.symm, eq0, en, e1, e2, e3, fun x hx => (by cases hx), .inl ⟨rfl, rfl⟩⟩, Nat.le_refl _⟩
  clear hd en eq0 e1 e2 e3 e4 hd2 s2 hdlt
  rintro k e h' ⟨e0, i, d, S, wv, w, hi, rfl, hd, B, hwi⟩
  have hnn := hd.nn
  have hsz := hd.sz
  (conv => whnf)
  refine Kcond.dec (fun hc => ?_) (fun hc => ?_)
  · simp only [List.length_map] at hc
    obtain ⟨x, hx⟩ : ∃ x, l[i]? = some x := ⟨_, List.getElem?_eq_getElem (by omega)⟩
    have hxo := hl x (List.mem_of_getElem? hx)
    (conv => whnf)
    refine VNth.of (by omega) (acts_at (by simpa using hx)) rfl ?_
    (conv => whnf)
    refine VAlloc.new rfl ?_
    (conv => whnf)
    refine VWrite.to (b' := actRow x) (hget_new _ _) (Nat.zero_le _) rfl rfl rfl ?_
    obtain ⟨G, hG⟩ : ∃ G, G = (h' ++ [some (⟨[.int .i64 0, .int .i64 0, .int .i64 0, .lst true []], 36, false⟩ : Blk)]).set h'.length (some (actRow x)) := ⟨_, rfl⟩
    have f1 : ∀ y, y < h'.length → hget G y = hget h' y := fun y hy => by rw [hG, hget_other (by omega), hget_old hy]
    have d1 : DAt G d := hd.grow f1
    have B1 := B.grow f1
    have row : hget G h'.length = some (actRow x) := by rw [hG]; exact hget_put (by simp)
    have hGl : G.length = h'.length + 1 := by rw [hG]; simp
    rw [← hG]
    (conv => whnf)
    refine VRow.of row ?_
    (conv => whnf)
    refine Kcond.eqI (fun c2 => ?_) (fun c2 => ?_)
    · (conv => whnf)
      refine sync_ok d1 fun h3 d3 hd3 ed3 ea3 fr3 => ?_
      rw [← ed3]
      have es : d.abs.sync.1 = 0 := congrArg Prod.fst (sync_awake (a := d.abs) B.gn B.lf)
      have fb : hget h3 lb = some (sRow S) := (fr3.old _ (hget_lt B1.bs) B1.ob).trans B1.bs
      have fx : hget h3 h'.length = some (actRow x) := (fr3.old _ (by omega) (fun ho => by have := hd.lt ho; omega)).trans row
      have flb : lb < h3.length := hget_lt fb
      have flx : h'.length < h3.length := hget_lt fx
      have fne : h'.length ≠ lb := by have := hget_lt B.bs; omega
      have nob : ¬ own d3 lb := (B1.sync ea3 fr3 (h5 := h3.set lb (some (sRow (lastS S (wq w))))) (hget_put flb)).ob
      refine Kcond.neI (fun hh => absurd es hh) (fun _ => ?_)
      (conv => whnf)
      refine VLoop.invL (fun k e h4 => ∃ e0 j, j + k = w.length ∧ e = put (put (put (put (put (put (put (put (put e0 0 (.lst b (l.map ActD.cells))) 1 (.int .i64 keep)) 2 (.int .i64 torn)) 7 (.ptr (some (d3.l, 0)))) 9 (.own lb 0 16 none)) 10 wv) 11 (.int .i64 i)) 12 (.ptr (some (h'.length, 0)))) 13 (.int .i64 j) ∧ h3.length ≤ h4.length ∧ (∀ y, y < h3.length → y ≠ lb → hget h4 y = hget h3 y) ∧ hget h4 lb = some (sRow (lastS S (wq (w.take j))))) ?_ (k := w.length)
        ⟨_, 0, by omega, put_eq9 rfl rfl rfl rfl rfl rfl rfl rfl rfl, Nat.le_refl _, fun _ _ _ => rfl, fb⟩
      rintro k1 e h4 ⟨e0, j, hj, rfl, g1, g2, g3⟩
      rcases B1.wv with ⟨rfl, rfl⟩ | ⟨lw, w0, rfl, w1, w2, w3⟩
      · have hj0 : j = 0 := by simp at hj; omega
        have g4 : hget h4 lb = some (sRow (lastS S (wq []))) := by rw [List.take_of_length_le (by first | omega | simp)] at g3; exact g3
        (conv => whnf)
        refine VRow.of ((g2 _ flx fne).trans fx) ?_
        (conv => whnf)
        refine Kcond.eqI (fun hh => absurd hh (by omega)) (fun _ => ?_)
        (conv => whnf)
        refine Kwrap.fit (by omega) ?_
        (conv => whnf)
        exact ⟨rfl, k - 1, by omega, _, i + 1, d3, _, _, [], by omega, put_eq7 rfl rfl rfl rfl rfl rfl rfl, hd3.frame fun y hy => g2 y (hd3.lt hy) (fun e => nob (e ▸ hy)), B1.sync ea3 fr3 g4, Nat.zero_le _⟩
      · have w3 : hget h4 lw = some ⟨wcells w, 36, true⟩ := (g2 _ (by have := hget_lt w3; have := fr3.len; omega) w1).trans ((fr3.old _ (hget_lt w3) w2).trans w3)
        have hlw := hget_lt w3
        (conv => whnf)
        refine Kcond.dec (fun hc2 => ?_) (fun hc2 => ?_)
        · obtain ⟨y, hy⟩ : ∃ y, w[j]? = some y := ⟨_, List.getElem?_eq_getElem (by omega)⟩
          have hyo := B1.wo y (List.mem_of_getElem? hy)
          have c1 : (wcells w).drop (0 + (j : Int).toNat * 4 + 1) = .int .i64 y.n :: .int .i64 y.m :: bytesV y.nil y.b :: (wcells w).drop (j * 4 + 4) := by
            have := congrArg (List.drop 1) (wcells_at hy)
            rw [List.drop_drop] at this
            simpa [ActD.cells] using this
          have c3 : (wcells w).drop (0 + (j : Int).toNat * 4 + 3) = bytesV y.nil y.b :: (wcells w).drop (j * 4 + 4) := by
            have := congrArg (List.drop 3) (wcells_at hy)
            rw [List.drop_drop] at this
            simpa [ActD.cells] using this
          (conv => whnf)
          refine VIf.of (by decide +kernel) ?_
          (conv => whnf)
          refine VIf.of ⟨by omega, by omega⟩ ?_
          (conv => whnf)
          refine VIf.of (fun h0 => absurd h0 (by omega)) ?_
          (conv => whnf)
          refine VRow.of ((hget_rep _ _ _).trans w3) ?_
          refine Kopt.of (loadAV_one rfl c1) ?_
          (conv => whnf)
          refine VIf.of ⟨by omega, by omega⟩ ?_
          (conv => whnf)
          refine VIf.of (fun h0 => absurd h0 (by omega)) ?_
          (conv => whnf)
          refine VRow.of ((hget_rep _ _ _).trans w3) ?_
          refine Kopt.of (loadAV_one rfl c3) ?_
          (conv => whnf)
          refine VIf.of (fun c hc => by simp at hc; obtain ⟨_, _, rfl⟩ := hc; rfl) ?_
          (conv => whnf)
          refine VBytes.of (bs := y.b) (flatten_one _) ?_
          (conv => whnf)
          refine VIf.of ⟨by omega, by omega⟩ ?_
          (conv => whnf)
          refine VWrite.of ((hget_rep _ _ _).trans g3) (Nat.zero_le _) (by simp [sRow, lastS_len, B.n]; omega) rfl ?_
          (conv => whnf)
          refine Kwrap.fit (by omega) ?_
          (conv => whnf)
          refine ⟨rfl, k1 - 1, by omega, _, j + 1, by omega, put_eq9 rfl rfl rfl rfl rfl rfl rfl rfl rfl, by simp; omega, fun z hz hne => ?_, ?_⟩
          · rw [hget_other hne, hget_rep, g2 z hz hne]
          · rw [hget_put (by simp; omega), lastS_at hy]
            simp only [sRow]
            rw [splice_one (by simp [lastS_len, B.n]; omega), List.map_set]
            congr 4
            omega
        · have g4 : hget h4 lb = some (sRow (lastS S (wq w))) := by rw [List.take_of_length_le (by first | omega | simp)] at g3; exact g3
          (conv => whnf)
          refine VRow.of ((g2 _ flx fne).trans fx) ?_
          (conv => whnf)
          refine Kcond.eqI (fun hh => absurd hh (by omega)) (fun _ => ?_)
          (conv => whnf)
          refine Kwrap.fit (by omega) ?_
          (conv => whnf)
          exact ⟨rfl, k - 1, by omega, _, i + 1, d3, _, _, [], by omega, put_eq7 rfl rfl rfl rfl rfl rfl rfl, hd3.frame fun y hy => g2 y (hd3.lt hy) (fun e => nob (e ▸ hy)), B1.sync ea3 fr3 g4, Nat.zero_le _⟩
    · (conv => whnf)
      refine VRow.of row ?_
      (conv => whnf)
      refine Kcond.eqI (fun c1 => ?_) (fun c1 => ?_)
      · (conv => whnf)
        refine VRow.of row ?_
        (conv => whnf)
        refine VRow.of row ?_
        (conv => whnf)
        have hqw : d.q.length = w.length := by
          have := congrArg List.length B.q
          simpa [DD.abs, wq] using this
        refine write_ok d1 (bs := x.b) (.lst hxo.nil) (fun l off n c e => by cases e) (by omega) fun h3 d3 hd3 ed3 ea3 fr3 => ?_
        rw [← ed3]
        have fb : hget h3 lb = some (sRow S) := (fr3.old _ (hget_lt B1.bs) B1.ob).trans B1.bs
        have fx : hget h3 h'.length = some (actRow x) := (fr3.old _ (by omega) (fun ho => by have := hd.lt ho; omega)).trans row
        have flb : lb < h3.length := hget_lt fb
        have flx : h'.length < h3.length := hget_lt fx
        have f3 := fr3.len
        rw [write_awake (a := d.abs) B.gn B.lf B.bl] at ea3 ⊢
        by_cases hbad : ¬ (0 ≤ x.n ∧ x.n < d.abs.n) ∨ x.b.length ≠ 64
        · rw [if_pos hbad] at ea3 ⊢
          have ea3 : d3.abs = { d.abs with q := wq w } := ea3.trans (by rw [← B.q])
          (conv => whnf)
          refine Kwrap.fit (by omega) ?_
          (conv => whnf)
          refine ⟨rfl, k - 1, by omega, _, i + 1, d3, S, _, w, by omega, put_eq7 rfl rfl rfl rfl rfl rfl rfl, hd3, B1.go fr3 ea3 fb B.wo ?_, by omega⟩
          rcases B1.wv with h0 | ⟨lw, w0, w5, w1, w2, w3⟩
          · exact .inl h0
          · exact .inr ⟨lw, w0, w5, w1, fr3.no w2 (hget_lt w3), (fr3.old _ (hget_lt w3) w2).trans w3⟩
        · rw [if_neg hbad] at ea3 ⊢
          have hxn : 0 ≤ x.n ∧ x.n < 16 := by
            have := B.dn
            simp only [DD.abs] at hbad
            omega
          have hxb : x.b.length = 64 := by omega
          have ea3 : d3.abs = { d.abs with q := wq (w ++ [x]) } := ea3.trans (by rw [B.q]; simp [wq])
          have hwo : ∀ y, y ∈ w ++ [x] → 0 ≤ y.n ∧ y.n < 16 ∧ y.b.length = 64 ∧ (y.nil = true → y.b = []) := fun y hy => by
            rcases List.mem_append.1 hy with hy | hy
            · exact B.wo y hy
            · simp at hy; subst hy; exact ⟨hxn.1, hxn.2, hxb, hxo.nil⟩
          (conv => whnf)
          refine VRow.of fx ?_
          (conv => whnf)
          refine Kcond.f (decide_eq_false (by omega)) ?_
          (conv => whnf)
          refine VRow.of fx ?_
          (conv => whnf)
          refine Kcond.f (decide_eq_false (by omega)) ?_
          (conv => whnf)
          refine VRow.of fx ?_
          (conv => whnf)
          refine Kcond.neI (fun hh => absurd (by simp [hxb]) hh) (fun _ => ?_)
          rcases B1.wv with ⟨rfl, rfl⟩ | ⟨lw, w0, rfl, w1, w2, w3⟩
          · (conv => whnf)
            refine VRow.of fx ?_
            (conv => whnf)
            refine VAlloc.new rfl ?_
            (conv => whnf)
            refine VB.append (et := 36) (size := 4) (nn := 1) (z := [.int .i64 0, .int .i64 0, .int .i64 0, .lst true []]) (new := x.cells) rfl rfl rfl rfl rfl rfl ?_ (appendV_nil (b := 48) (size := 4) rfl rfl (by omega) rfl rfl (by omega) ?_)
            · simp only [srcCells]
              rw [hget_new]
              rfl
            refine VAlloc.new rfl ?_
            (conv => whnf)
            refine Kwrap.fit (by omega) ?_
            (conv => whnf)
            have f5 : ∀ (c1 c2 : Option Blk) (y : Nat), y < h3.length → hget (h3 ++ [c1] ++ [c2]) y = hget h3 y := fun c1 c2 y hy => by rw [hget_old (by simp; omega), hget_old hy]
            exact ⟨rfl, k - 1, by omega, _, i + 1, d3, S, _, [] ++ [x], by omega, put_eq7 rfl rfl rfl rfl rfl rfl rfl, hd3.frame fun y hy => f5 _ _ y (hd3.lt hy), B1.go fr3 ea3 ((f5 _ _ _ flb).trans fb) hwo
              (.inr ⟨_, by simp, rfl, by simp; omega, fun ho => by have := hd3.lt ho; simp at this <;> omega, hget_new _ _⟩), by simp⟩
          · have hlw := hget_lt w3
            have fw : hget h3 lw = some ⟨wcells w, 36, true⟩ := (fr3.old _ (hget_lt w3) w2).trans w3
            (conv => whnf)
            refine VRow.of fx ?_
            (conv => whnf)
            refine VAlloc.new rfl ?_
            (conv => whnf)
            refine VB.append (et := 36) (size := 4) (nn := 1) (z := [.int .i64 0, .int .i64 0, .int .i64 0, .lst true []]) (new := x.cells) rfl rfl rfl rfl rfl rfl ?_ (appendV_more (b := 48) (size := 4) (blk := ⟨wcells w, 36, true⟩) rfl rfl (by omega) (by omega) rfl rfl ((hget_old (by omega)).trans fw) (by omega) (by simp [wcells_len]; omega) rfl (by omega) ?_)
            · simp only [srcCells]
              rw [hget_new]
              rfl
            refine VAlloc.new (by
              rw [List.all_append, wcells_one]; rfl) ?_
            (conv => whnf)
            refine Kwrap.fit (by omega) ?_
            (conv => whnf)
            have f5 : ∀ (c1 c2 : Option Blk) (y : Nat), y < h3.length → y ≠ lw → hget ((h3 ++ [c1]).set lw none ++ [c2]) y = hget h3 y := fun c1 c2 y hy hne => by rw [hget_old (by simp; omega), hget_other hne, hget_old hy]
            have nlw := fr3.no w2 (hget_lt w3)
            exact ⟨rfl, k - 1, by omega, _, i + 1, d3, S, _, w ++ [x], by omega, put_eq7 rfl rfl rfl rfl rfl rfl rfl, hd3.frame fun y hy => f5 _ _ y (hd3.lt hy) (fun e => nlw (e ▸ hy)), B1.go fr3 ea3 ((f5 _ _ _ flb (Ne.symm w1)).trans fb) hwo
              (.inr ⟨_, by simp, congrArg (AVal.own _ 0 · none) (show w.length + 1 = (w ++ [x]).length by simp), by simp; omega, fun ho => by have := hd3.lt ho; simp at this <;> omega, (hget_new _ _).trans (by rw [wcells_snoc])⟩), by simp; omega⟩
      · (conv => whnf)
        refine Kwrap.fit (by omega) ?_
        (conv => whnf)
        exact ⟨rfl, k - 1, by omega, _, i + 1, d, S, _, w, by omega, put_eq7 rfl rfl rfl rfl rfl rfl rfl, d1, B1, by omega⟩
  · (conv => whnf)
    have hqw : d.q.length = w.length := by
      have := congrArg List.length B.q
      simpa [DD.abs, wq] using this
    refine pending_ok hd ?_
    rw [hqw]
    rcases B.wv with ⟨rfl, rfl⟩ | ⟨lw, w0, rfl, w1, w2, w3⟩
    · (conv => whnf)
      refine crash_ok hd keep torn fun h3 d3 hd3 ed3 ea3 fr3 => ?_
      rw [← ed3]
      (conv => whnf)
      have fb : hget h3 lb = some (sRow S) := (fr3.old _ (hget_lt B.bs) B.ob).trans B.bs
      refine VLoop.still (fun k e => ∃ e0, e = put (put (put (put (put (put e0 2 (.int .i64 torn)) 7 (.ptr (some (d3.l, 0)))) 9 (.own lb 0 16 none)) 10 (.lst true [])) 14 (.int .i64 0)) 15 (.int .i64 0)) ?_ (k := 0) ⟨_, put_eq6 rfl rfl rfl rfl (by show AVal.int .i64 _ = _; rw [ite_max, ite_min]; simp; omega) rfl⟩
      rintro k e ⟨e0, rfl⟩
      have hd9 := hd3
      have hb9 := fb
      have h64 := B.s64
      have hS := B.n
      have hfl : S.flatten = d3.kept := B.fl.trans ((congrArg AD.kept ea3).trans (crash_rest B.q keep torn)).symm
      (conv => whnf)
      refine split_ok hd9 fun h6 l6 s1 s2 s3 s4 => ?_
      have hd6 := hd9.grow s4
      have hlb6 : lb < h6.length := by have := hget_lt hb9; omega
      have hb6 : hget h6 lb = some (sRow S) := (s4 _ (hget_lt hb9)).trans hb9
      have sq : d3.abs.q = [] := congrArg AD.q ea3
      have sg : d3.gone = false := congrArg AD.gone ea3
      have sn : d3.n = 16 := (congrArg AD.n ea3).trans B.dn
      have hq3 : d3.q.length = 0 := by
        have := congrArg List.length sq
        simpa [DD.abs] using this
      rw [sn, ← hfl, cutS_flatten h64 hS] at s2
      rw [sn]
      (conv => whnf)
      refine VLoop.invL (fun k e h' => ∃ e0 i, i + k = 16 ∧ e = put (put (put (put e0 7 (.ptr (some (d3.l, 0)))) 9 (.own lb 0 16 none)) 18 (.own l6 0 16 none)) 19 (.int .i64 i) ∧ DAt h' d3 ∧ hget h' lb = some (sRow S) ∧ hget h' l6 = some (sRow S) ∧ h6.length ≤ h'.length) ?_ (k := 16)
        ⟨_, 0, by omega, put_eq4 rfl rfl rfl rfl, hd6, hb6, s2, Nat.le_refl _⟩
      rintro k e h' ⟨e0, i, hi, rfl, hd4, s5, s6, s7⟩
      have hl6 := hget_lt s2
      (conv => whnf)
      refine Kcond.dec (fun hc => ?_) (fun hc => ?_)
      · (conv => whnf)
        refine read_ok hd4 (fun hA ra g1 g2 ra1 ra2 ra3 ra4 => ?_) (fun hno => absurd ⟨by omega, by omega⟩ hno) (fun _ hg => by rw [sg] at hg; cases hg)
        have hd5 := hd4.grow ra4
        have hsec : sec d3.kept i = sec S.flatten i := by rw [hfl]
        obtain ⟨y, hy⟩ : ∃ y, S[i]? = some y := ⟨_, List.getElem?_eq_getElem (by omega)⟩
        have ey : d3.abs.read i = y := (read_rest sq i).trans (hsec.trans (flatten_sector h64 hy))
        have hyl : y.length = 64 := h64 y (List.mem_of_getElem? hy)
        rw [ey] at ra2
        have hrl := hget_lt ra2
        have g5 : ∀ z, hget (hA ++ List.replicate 22 none) z = hget hA z := fun z => hget_rep _ _ _
        (conv => whnf)
        refine VIf.of (by decide +kernel) ?_
        (conv => whnf)
        refine VIf.of (fun h0 => absurd h0 (by omega)) ?_
        (conv => whnf)
        refine VRow.of ((g5 _).trans ra2) ?_
        (conv => whnf)
        refine VIf.of (by simp [bRow, hyl]) ?_
        (conv => whnf)
        refine VBytes.of (bs := y) (by simp only [bRow, List.drop_zero]; rw [← hyl]; exact take_map_len _) ?_
        (conv => whnf)
        have hbA : hget (hA ++ List.replicate 22 none) lb = some (sRow S) := (g5 _).trans ((ra4 _ (hget_lt s5)).trans s5)
        have hlA : hget (hA ++ List.replicate 22 none) l6 = some (sRow S) := (g5 _).trans ((ra4 _ (hget_lt s6)).trans s6)
        have hbl := hget_lt s5
        have hll := hget_lt s6
        have hst : List.drop (0 + (i : Int).toNat * 1 + 0) (sRow S).cells = .str y :: ((S).map AVal.str).drop (i + 1) := by simpa [sRow] using strs_drop hy
        refine VIf.of ⟨by omega, by omega⟩ ?_
        (conv => whnf)
        refine VIf.of (fun h0 => absurd h0 (by omega)) ?_
        (conv => whnf)
        refine VRow.of hbA ?_
        refine Kopt.of (loadAV_one rfl hst) ?_
        (conv => whnf)
        refine Kcond.neS (fun hh => absurd rfl hh) (fun _ => ?_)
        (conv => whnf)
        refine VIf.of ⟨by omega, by omega⟩ ?_
        (conv => whnf)
        refine VIf.of (fun h0 => absurd h0 (by omega)) ?_
        (conv => whnf)
        refine VRow.of hlA ?_
        refine Kopt.of (loadAV_one rfl hst) ?_
        (conv => whnf)
        refine VIf.of ⟨by omega, by omega⟩ ?_
        (conv => whnf)
        refine VIf.of (fun h0 => absurd h0 (by omega)) ?_
        (conv => whnf)
        refine VRow.of hbA ?_
        refine Kopt.of (loadAV_one rfl hst) ?_
        (conv => whnf)
        refine Kcond.neS (fun hh => absurd rfl hh) (fun _ => ?_)
        (conv => whnf)
        refine Kwrap.fit (by omega) ?_
        (conv => whnf)
        exact ⟨rfl, k - 1, by omega, _, i + 1, by omega, put_eq4 rfl rfl rfl rfl, hd5.frame fun z hz => g5 z, hbA, hlA, by simp; omega⟩
      · (conv => whnf)
        refine pending_ok hd4 ?_
        rw [hq3]
        (conv => whnf)
        refine dark_ok hd4 ?_
        rw [sg]
        (conv => whnf)
        refine awake_ok ?_
        (conv => whnf)
        exact hk _
    · (conv => whnf)
      refine Kcond.neI (fun hh => absurd rfl hh) (fun _ => ?_)
      (conv => whnf)
      refine crash_ok hd keep torn fun h3 d3 hd3 ed3 ea3 fr3 => ?_
      rw [← ed3]
      obtain ⟨n, hn⟩ : ∃ n : Nat, n = (min (max keep 0) w.length).toNat := ⟨_, rfl⟩
      have hnw : n ≤ w.length := by omega
      have fb : hget h3 lb = some (sRow S) := (fr3.old _ (hget_lt B.bs) B.ob).trans B.bs
      have fw : hget h3 lw = some ⟨wcells w, 36, true⟩ := (fr3.old _ (hget_lt w3) w2).trans w3
      have nob : ¬ own d3 lb := fr3.no B.ob (hget_lt B.bs)
      have flw := hget_lt fw
      have flb := hget_lt fb
      (conv => whnf)
      refine VLoop.invL (fun k e h4 => ∃ e0 j, j + k = n ∧ e = put (put (put (put (put (put e0 2 (.int .i64 torn)) 7 (.ptr (some (d3.l, 0)))) 9 (.own lb 0 16 none)) 10 (.own lw 0 w.length none)) 14 (.int .i64 n)) 15 (.int .i64 j) ∧ h3.length ≤ h4.length ∧ (∀ y, y < h3.length → y ≠ lb → hget h4 y = hget h3 y) ∧ hget h4 lb = some (sRow (lastS S (wq (w.take j))))) ?_ (k := n)
        ⟨_, 0, by omega, put_eq6 rfl rfl rfl rfl (by show AVal.int .i64 _ = _; rw [ite_max, ite_min]; congr 1; omega) rfl, Nat.le_refl _, fun _ _ _ => rfl, fb⟩
      rintro k1 e h4 ⟨e0, j, hj, rfl, g1, g2, g3⟩
      have w3 : hget h4 lw = some ⟨wcells w, 36, true⟩ := (g2 _ flw w1).trans fw
      (conv => whnf)
      refine Kcond.dec (fun hc2 => ?_) (fun hc2 => ?_)
      · obtain ⟨y, hy⟩ : ∃ y, w[j]? = some y := ⟨_, List.getElem?_eq_getElem (by omega)⟩
        have hyo := B.wo y (List.mem_of_getElem? hy)
        have c1 : (wcells w).drop (0 + (j : Int).toNat * 4 + 1) = .int .i64 y.n :: .int .i64 y.m :: bytesV y.nil y.b :: (wcells w).drop (j * 4 + 4) := by
          have := congrArg (List.drop 1) (wcells_at hy)
          rw [List.drop_drop] at this
          simpa [ActD.cells] using this
        have c3 : (wcells w).drop (0 + (j : Int).toNat * 4 + 3) = bytesV y.nil y.b :: (wcells w).drop (j * 4 + 4) := by
          have := congrArg (List.drop 3) (wcells_at hy)
          rw [List.drop_drop] at this
          simpa [ActD.cells] using this
        (conv => whnf)
        refine VIf.of (by decide +kernel) ?_
        (conv => whnf)
        refine VIf.of ⟨by omega, by omega⟩ ?_
        (conv => whnf)
        refine VIf.of (fun h0 => absurd h0 (by omega)) ?_
        (conv => whnf)
        refine VRow.of ((hget_rep _ _ _).trans w3) ?_
        refine Kopt.of (loadAV_one rfl c1) ?_
        (conv => whnf)
        refine VIf.of ⟨by omega, by omega⟩ ?_
        (conv => whnf)
        refine VIf.of (fun h0 => absurd h0 (by omega)) ?_
        (conv => whnf)
        refine VRow.of ((hget_rep _ _ _).trans w3) ?_
        refine Kopt.of (loadAV_one rfl c3) ?_
        (conv => whnf)
        refine VIf.of (fun c hc => by simp at hc; obtain ⟨_, _, rfl⟩ := hc; rfl) ?_
        (conv => whnf)
        refine VBytes.of (bs := y.b) (flatten_one _) ?_
        (conv => whnf)
        refine VIf.of ⟨by omega, by omega⟩ ?_
        (conv => whnf)
        refine VWrite.of ((hget_rep _ _ _).trans g3) (Nat.zero_le _) (by simp [sRow, lastS_len, B.n]; omega) rfl ?_
        (conv => whnf)
        refine Kwrap.fit (by omega) ?_
        (conv => whnf)
        refine ⟨rfl, k1 - 1, by omega, _, j + 1, by omega, put_eq6 rfl rfl rfl rfl rfl rfl, by simp; omega, fun z hz hne => ?_, ?_⟩
        · rw [hget_other hne, hget_rep, g2 z hz hne]
        · rw [hget_put (by simp; omega), lastS_at hy]
          simp only [sRow]
          rw [splice_one (by simp [lastS_len, B.n]; omega), List.map_set]
          congr 4
          omega
      · obtain rfl : j = n := by omega
        have hsub : ∀ x, x ∈ wq (w.take j) → x.2.length = 64 ∧ 0 ≤ x.1 ∧ x.1 < S.length := fun x hx => B.wqok x (by
          simp only [wq, List.mem_map] at hx ⊢
          obtain ⟨y, hy, rfl⟩ := hx
          exact ⟨y, List.mem_of_mem_take hy, rfl⟩)
        obtain ⟨S1, hS1⟩ : ∃ S1, S1 = lastS S (wq (w.take j)) := ⟨_, rfl⟩
        rw [← hS1] at g3
        have h64 : ∀ x, x ∈ S1 → x.length = 64 := by rw [hS1]; exact lastS_64 B.s64 fun x hx => (hsub x hx).1
        have hS : S1.length = 16 := by rw [hS1, lastS_len]; exact B.n
        have hf1 : S1.flatten = settledA d.abs.kept ((wq w).take j) := by
          rw [hS1, lastS_flat B.s64 hsub, B.fl]
          simp only [wq, List.map_take]
          rfl
        have hck := (congrArg AD.kept ea3).trans (crash_kept (keep := keep) (torn := torn) (n := j) B.q (by simp [wq, hn]))
        rw [← hf1] at hck
        have hd9 : DAt h4 d3 := hd3.frame fun y hy => g2 y (hd3.lt hy) (fun e => nob (e ▸ hy))
        (conv => whnf)
        refine Kcond.dec (fun hc3 => ?_) (fun hc3 => ?_)
        · obtain ⟨y, hy⟩ : ∃ y, w[j]? = some y := ⟨_, List.getElem?_eq_getElem (by omega)⟩
          have hyo := B.wo y (List.mem_of_getElem? hy)
          obtain ⟨t, ht⟩ : ∃ t : Nat, t = (min (max torn 0) 64).toNat := ⟨_, rfl⟩
          have hwy : (wq w)[j]? = some (y.n, y.b) := by simp [wq, hy]
          rw [hwy] at hck
          simp only [← ht] at hck
          have ht2 : min (max torn 0) 64 = ((t : Nat) : Int) := by omega
          (conv => whnf)
          rw [ite_max, ite_min, ht2]
          refine VIf.of ⟨by omega, by omega⟩ ?_
          (conv => whnf)
          refine VRow.of w3 ?_
          have c0 : (wcells w).drop (0 + (j : Int).toNat * 4) = y.cells ++ (wcells w).drop (j * 4 + 4) := by
            have := wcells_at hy; simpa using this
          refine Kopt.of (loadAV_agg (m := 4) (vs := y.cells) rfl rfl (by rw [c0]; rfl) rfl) ?_
          (conv => whnf)
          refine VAlloc.new rfl ?_
          (conv => whnf)
          refine VWrite.to (b' := actRow y) (hget_new _ _) (Nat.zero_le _) rfl rfl rfl ?_
          obtain ⟨G, hG⟩ : ∃ G, G = (h4 ++ [some (⟨[.int .i64 0, .int .i64 0, .int .i64 0, .lst true []], 36, false⟩ : Blk)]).set h4.length (some (actRow y)) := ⟨_, rfl⟩
          have f1 : ∀ z, z < h4.length → hget G z = hget h4 z := fun z hz => by rw [hG, hget_other (by omega), hget_old hz]
          have hdG : DAt G d3 := hd9.grow f1
          have row : hget G h4.length = some (actRow y) := by rw [hG]; exact hget_put (by simp)
          have hGl : G.length = h4.length + 1 := by rw [hG]; simp
          have hlb4 : lb < h4.length := by omega
          have gb : hget G lb = some (sRow S1) := (f1 _ hlb4).trans g3
          rw [← hG]
          obtain ⟨s0, hs0⟩ : ∃ s0, S1[y.n.toNat]? = some s0 := ⟨_, List.getElem?_eq_getElem (by omega)⟩
          have hs64 := h64 s0 (List.mem_of_getElem? hs0)
          (conv => whnf)
          refine VIf.of (by decide +kernel) ?_
          (conv => whnf)
          have g5 : ∀ z, hget (G ++ List.replicate 18 none) z = hget G z := fun z => hget_rep _ _ _
          refine VIf.of (fun h0 => absurd h0 (by omega)) ?_
          (conv => whnf)
          refine VRow.of ((g5 _).trans row) ?_
          (conv => whnf)
          refine VIf.of (fun h0 => absurd h0 (by omega)) ?_
          (conv => whnf)
          refine VRow.of ((g5 _).trans row) ?_
          (conv => whnf)
          have hyb := hyo.2.2.1
          refine VIf.of ⟨by omega, by omega, by simp; omega⟩ ?_
          (conv => whnf)
          refine VIf.of (.inl rfl) ?_
          (conv => whnf)
          refine VIf.of (fun c hc => by
            have hc := List.mem_of_mem_take (List.mem_of_mem_drop hc)
            simp at hc
            obtain ⟨_, _, rfl⟩ := hc
            rfl) ?_
          (conv => whnf)
          refine VBytes.of (bs := y.b.take t) (by
            show (List.take t (y.b.map _)).flatten = _
            rw [← List.map_take]
            exact flatten_one _) ?_
          (conv => whnf)
          refine VIf.of (fun h0 => absurd h0 (by omega)) ?_
          (conv => whnf)
          refine VRow.of ((g5 _).trans row) ?_
          (conv => whnf)
          refine VIf.of ⟨by omega, by omega⟩ ?_
          have hst : List.drop (0 + y.n.toNat * 1 + 0) (sRow S1).cells = .str s0 :: (S1.map AVal.str).drop (y.n.toNat + 1) := by simpa [sRow] using strs_drop hs0
          (conv => whnf)
          refine VIf.of (fun h0 => absurd h0 (by omega)) ?_
          (conv => whnf)
          refine VRow.of ((g5 _).trans gb) ?_
          refine Kopt.of (loadAV_one rfl hst) ?_
          (conv => whnf)
          refine VIf.of ⟨by omega, by omega, by omega⟩ ?_
          (conv => whnf)
          refine VIf.of (by simp; omega) ?_
          (conv => whnf)
          refine VIf.of ⟨by omega, by omega⟩ ?_
          (conv => whnf)
          have hbt : (y.b.take t).length = t := by simp; omega
          obtain ⟨S2, hS2⟩ : ∃ S2, S2 = S1.set y.n.toNat (y.b.take t ++ s0.drop t) := ⟨_, rfl⟩
          have hfl : S2.flatten = d3.kept := by
            have := flatten_patch (b := y.b.take t) h64 hs0 (by omega)
            rw [hbt, ← hS2] at this
            rw [← this]
            exact hck.symm
          refine VWrite.to (b' := sRow S2) ((g5 _).trans gb) (Nat.zero_le _) ?_ rfl ?_ ?_
          · simp [sRow, hS]; omega
          · simp only [sRow]
            rw [splice_one (by simp [hS]; omega), hS2, List.map_set]
            simp
          have h64 : ∀ x, x ∈ S2 → x.length = 64 := fun x hx => by
            rw [hS2] at hx
            rcases List.mem_or_eq_of_mem_set hx with h0 | h0
            · exact h64 x h0
            · rw [h0]; simp [hs64]; omega
          have hS : S2.length = 16 := by rw [hS2, List.length_set]; exact hS
          have hd9 : DAt ((G ++ List.replicate 18 none).set lb (some (sRow S2))) d3 := hdG.frame fun z hz => by
            have hne : z ≠ lb := fun e => nob (e ▸ hz)
            rw [hget_other hne, g5]
          have hb9 : hget ((G ++ List.replicate 18 none).set lb (some (sRow S2))) lb = some (sRow S2) := hget_put (by simp; omega)
          (conv => whnf)
          refine split_ok hd9 fun h6 l6 s1 s2 s3 s4 => ?_
          have hd6 := hd9.grow s4
          have hlb6 : lb < h6.length := by have := hget_lt hb9; omega
          have hb6 : hget h6 lb = some (sRow S2) := (s4 _ (hget_lt hb9)).trans hb9
          have sq : d3.abs.q = [] := congrArg AD.q ea3
          have sg : d3.gone = false := congrArg AD.gone ea3
          have sn : d3.n = 16 := (congrArg AD.n ea3).trans B.dn
          have hq3 : d3.q.length = 0 := by
            have := congrArg List.length sq
            simpa [DD.abs] using this
          rw [sn, ← hfl, cutS_flatten h64 hS] at s2
          rw [sn]
          (conv => whnf)
          refine VLoop.invL (fun k e h' => ∃ e0 i, i + k = 16 ∧ e = put (put (put (put e0 7 (.ptr (some (d3.l, 0)))) 9 (.own lb 0 16 none)) 18 (.own l6 0 16 none)) 19 (.int .i64 i) ∧ DAt h' d3 ∧ hget h' lb = some (sRow S2) ∧ hget h' l6 = some (sRow S2) ∧ h6.length ≤ h'.length) ?_ (k := 16)
            ⟨_, 0, by omega, put_eq4 rfl rfl rfl rfl, hd6, hb6, s2, Nat.le_refl _⟩
          rintro k e h' ⟨e0, i, hi, rfl, hd4, s5, s6, s7⟩
          have hl6 := hget_lt s2
          (conv => whnf)
          refine Kcond.dec (fun hc => ?_) (fun hc => ?_)
          · (conv => whnf)
            refine read_ok hd4 (fun hA ra g1 g2 ra1 ra2 ra3 ra4 => ?_) (fun hno => absurd ⟨by omega, by omega⟩ hno) (fun _ hg => by rw [sg] at hg; cases hg)
            have hd5 := hd4.grow ra4
            have hsec : sec d3.kept i = sec S2.flatten i := by rw [hfl]
            obtain ⟨y, hy⟩ : ∃ y, S2[i]? = some y := ⟨_, List.getElem?_eq_getElem (by omega)⟩
            have ey : d3.abs.read i = y := (read_rest sq i).trans (hsec.trans (flatten_sector h64 hy))
            have hyl : y.length = 64 := h64 y (List.mem_of_getElem? hy)
            rw [ey] at ra2
            have hrl := hget_lt ra2
            have g5 : ∀ z, hget (hA ++ List.replicate 22 none) z = hget hA z := fun z => hget_rep _ _ _
            (conv => whnf)
            refine VIf.of (by decide +kernel) ?_
            (conv => whnf)
            refine VIf.of (fun h0 => absurd h0 (by omega)) ?_
            (conv => whnf)
            refine VRow.of ((g5 _).trans ra2) ?_
            (conv => whnf)
            refine VIf.of (by simp [bRow, hyl]) ?_
            (conv => whnf)
            refine VBytes.of (bs := y) (by simp only [bRow, List.drop_zero]; rw [← hyl]; exact take_map_len _) ?_
            (conv => whnf)
            have hbA : hget (hA ++ List.replicate 22 none) lb = some (sRow S2) := (g5 _).trans ((ra4 _ (hget_lt s5)).trans s5)
            have hlA : hget (hA ++ List.replicate 22 none) l6 = some (sRow S2) := (g5 _).trans ((ra4 _ (hget_lt s6)).trans s6)
            have hbl := hget_lt s5
            have hll := hget_lt s6
            have hst : List.drop (0 + (i : Int).toNat * 1 + 0) (sRow S2).cells = .str y :: ((S2).map AVal.str).drop (i + 1) := by simpa [sRow] using strs_drop hy
            refine VIf.of ⟨by omega, by omega⟩ ?_
            (conv => whnf)
            refine VIf.of (fun h0 => absurd h0 (by omega)) ?_
            (conv => whnf)
            refine VRow.of hbA ?_
            refine Kopt.of (loadAV_one rfl hst) ?_
            (conv => whnf)
            refine Kcond.neS (fun hh => absurd rfl hh) (fun _ => ?_)
            (conv => whnf)
            refine VIf.of ⟨by omega, by omega⟩ ?_
            (conv => whnf)
            refine VIf.of (fun h0 => absurd h0 (by omega)) ?_
            (conv => whnf)
            refine VRow.of hlA ?_
            refine Kopt.of (loadAV_one rfl hst) ?_
            (conv => whnf)
            refine VIf.of ⟨by omega, by omega⟩ ?_
            (conv => whnf)
            refine VIf.of (fun h0 => absurd h0 (by omega)) ?_
            (conv => whnf)
            refine VRow.of hbA ?_
            refine Kopt.of (loadAV_one rfl hst) ?_
            (conv => whnf)
            refine Kcond.neS (fun hh => absurd rfl hh) (fun _ => ?_)
            (conv => whnf)
            refine Kwrap.fit (by omega) ?_
            (conv => whnf)
            exact ⟨rfl, k - 1, by omega, _, i + 1, by omega, put_eq4 rfl rfl rfl rfl, hd5.frame fun z hz => g5 z, hbA, hlA, by simp; omega⟩
          · (conv => whnf)
            refine pending_ok hd4 ?_
            rw [hq3]
            (conv => whnf)
            refine dark_ok hd4 ?_
            rw [sg]
            (conv => whnf)
            refine awake_ok ?_
            (conv => whnf)
            exact hk _
        · have hfl : S1.flatten = d3.kept := by
            have hwy : (wq w)[j]? = none := by simp [wq]; omega
            rw [hwy] at hck
            exact hck.symm
          have hb9 := g3
          (conv => whnf)
          refine split_ok hd9 fun h6 l6 s1 s2 s3 s4 => ?_
          have hd6 := hd9.grow s4
          have hlb6 : lb < h6.length := by have := hget_lt hb9; omega
          have hb6 : hget h6 lb = some (sRow S1) := (s4 _ (hget_lt hb9)).trans hb9
          have sq : d3.abs.q = [] := congrArg AD.q ea3
          have sg : d3.gone = false := congrArg AD.gone ea3
          have sn : d3.n = 16 := (congrArg AD.n ea3).trans B.dn
          have hq3 : d3.q.length = 0 := by
            have := congrArg List.length sq
            simpa [DD.abs] using this
          rw [sn, ← hfl, cutS_flatten h64 hS] at s2
          rw [sn]
          (conv => whnf)
          refine VLoop.invL (fun k e h' => ∃ e0 i, i + k = 16 ∧ e = put (put (put (put e0 7 (.ptr (some (d3.l, 0)))) 9 (.own lb 0 16 none)) 18 (.own l6 0 16 none)) 19 (.int .i64 i) ∧ DAt h' d3 ∧ hget h' lb = some (sRow S1) ∧ hget h' l6 = some (sRow S1) ∧ h6.length ≤ h'.length) ?_ (k := 16)
            ⟨_, 0, by omega, put_eq4 rfl rfl rfl rfl, hd6, hb6, s2, Nat.le_refl _⟩
          rintro k e h' ⟨e0, i, hi, rfl, hd4, s5, s6, s7⟩
          have hl6 := hget_lt s2
          (conv => whnf)
          refine Kcond.dec (fun hc => ?_) (fun hc => ?_)
          · (conv => whnf)
            refine read_ok hd4 (fun hA ra g1 g2 ra1 ra2 ra3 ra4 => ?_) (fun hno => absurd ⟨by omega, by omega⟩ hno) (fun _ hg => by rw [sg] at hg; cases hg)
            have hd5 := hd4.grow ra4
            have hsec : sec d3.kept i = sec S1.flatten i := by rw [hfl]
            obtain ⟨y, hy⟩ : ∃ y, S1[i]? = some y := ⟨_, List.getElem?_eq_getElem (by omega)⟩
            have ey : d3.abs.read i = y := (read_rest sq i).trans (hsec.trans (flatten_sector h64 hy))
            have hyl : y.length = 64 := h64 y (List.mem_of_getElem? hy)
            rw [ey] at ra2
            have hrl := hget_lt ra2
            have g5 : ∀ z, hget (hA ++ List.replicate 22 none) z = hget hA z := fun z => hget_rep _ _ _
            (conv => whnf)
            refine VIf.of (by decide +kernel) ?_
            (conv => whnf)
            refine VIf.of (fun h0 => absurd h0 (by omega)) ?_
            (conv => whnf)
            refine VRow.of ((g5 _).trans ra2) ?_
            (conv => whnf)
            refine VIf.of (by simp [bRow, hyl]) ?_
            (conv => whnf)
            refine VBytes.of (bs := y) (by simp only [bRow, List.drop_zero]; rw [← hyl]; exact take_map_len _) ?_
            (conv => whnf)
            have hbA : hget (hA ++ List.replicate 22 none) lb = some (sRow S1) := (g5 _).trans ((ra4 _ (hget_lt s5)).trans s5)
            have hlA : hget (hA ++ List.replicate 22 none) l6 = some (sRow S1) := (g5 _).trans ((ra4 _ (hget_lt s6)).trans s6)
            have hbl := hget_lt s5
            have hll := hget_lt s6
            have hst : List.drop (0 + (i : Int).toNat * 1 + 0) (sRow S1).cells = .str y :: ((S1).map AVal.str).drop (i + 1) := by simpa [sRow] using strs_drop hy
            refine VIf.of ⟨by omega, by omega⟩ ?_
            (conv => whnf)
            refine VIf.of (fun h0 => absurd h0 (by omega)) ?_
            (conv => whnf)
            refine VRow.of hbA ?_
            refine Kopt.of (loadAV_one rfl hst) ?_
            (conv => whnf)
            refine Kcond.neS (fun hh => absurd rfl hh) (fun _ => ?_)
            (conv => whnf)
            refine VIf.of ⟨by omega, by omega⟩ ?_
            (conv => whnf)
            refine VIf.of (fun h0 => absurd h0 (by omega)) ?_
            (conv => whnf)
            refine VRow.of hlA ?_
            refine Kopt.of (loadAV_one rfl hst) ?_
            (conv => whnf)
            refine VIf.of ⟨by omega, by omega⟩ ?_
            (conv => whnf)
            refine VIf.of (fun h0 => absurd h0 (by omega)) ?_
            (conv => whnf)
            refine VRow.of hbA ?_
            refine Kopt.of (loadAV_one rfl hst) ?_
            (conv => whnf)
            refine Kcond.neS (fun hh => absurd rfl hh) (fun _ => ?_)
            (conv => whnf)
            refine Kwrap.fit (by omega) ?_
            (conv => whnf)
            exact ⟨rfl, k - 1, by omega, _, i + 1, by omega, put_eq4 rfl rfl rfl rfl, hd5.frame fun z hz => g5 z, hbA, hlA, by simp; omega⟩
          · (conv => whnf)
            refine pending_ok hd4 ?_
            rw [hq3]
            (conv => whnf)
            refine dark_ok hd4 ?_
            rw [sg]
            (conv => whnf)
            refine awake_ok ?_
            (conv => whnf)
            exact hk _
end Go.Proofs.Ytcdjkpppfghkpaa
