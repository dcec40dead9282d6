/-
  Operations of the machine of values against the model's: slices made and cut, fields, elements, reckoning.
-/
import Derived.Test.YtcdjkpppfghkpaaAbsOps2
set_option linter.unusedSimpArgs false
set_option linter.unusedVariables false
namespace Go.Abs
open Go

variable {P : Program} {m : Nat → Option Nat} {Z : Nat → Prop} {h h' : Heap} {w : World} {base : Nat} {slot : Option Nat} {lb : Nat → Prop}

theorem elemT_some {t e : TypeId} (he : elemT P t = some e) : P.underlying t = some (.slice e) := by
  unfold elemT at he
  split at he
  · rename_i x hx; simp at he; subst he; exact hx
  · cases he

theorem gd_some {b : Bool} {u : Unit} (e : gd b = some u) : b = true := by unfold gd at e; split at e <;> simp_all

theorem map_range0 {α : Type} (f : Nat → α) : (Array.range 0).map f = #[] := by simp

theorem V_own {l b n cp : Nat} {off : Nat} {cap : Option Nat} (hm : m l = some b) (hn : n ≤ cp) (hc : ∀ c, cap = some c → cp = c) (hs : cap = none → off = 0 → ∃ e k, w.shape? b = some (e, k) ∧ cp * P.cellsOf e ≤ k) :
    V P m Z w (.own l off n cap) (.slice (some ⟨b, off, none⟩) n cp) := by
  simp only [V]; exact ⟨b, _, cp, hm, rfl, hn, fun _ => rfl, hc, hs⟩

theorem run_buildSlice (r : HRel P m Z h w) {t : TypeId} {len : Nat} {parts : List (Nat × AVal)} {us : Array (Nat × Value)} {x : AVal} (e : buildSliceA P h slot t len parts = some (x, h'))
    (fr : Free m h base slot) (hp : PartsV P m Z w parts us.toList) : Gives P m Z base slot lb h w (Instr.buildSlice t len us) x h' := by
  simp only [buildSliceA, Option.bind_eq_bind, Option.bind_eq_some_iff] at e
  obtain ⟨el, he, s, hs, _, hg, z, hz, _, hg2, cells, hf, ⟨l, h1⟩, ha, e⟩ := e
  simp only [Option.some.injEq, Prod.mk.injEq] at e
  obtain ⟨rfl, rfl⟩ := e
  have hg := of_decide_eq_true (gd_some hg)
  have hg2 := of_decide_eq_true (gd_some hg2)
  obtain ⟨v, hv1, hv2⟩ := run_zero (m := m) (Z := Z) hz w
  have hvl : v.cells.size = s := by have := hv2.length; simp at this; omega
  have hzs := hv2.zeros len
  have hrz := range_zeros v.cells len
  rw [hvl] at hrz
  rw [← hrz] at hzs
  obtain ⟨ys, k1, k2, _⟩ := run_fill hf hp hzs
  have hw : ({ w with heap := w.heap.push (.cells ys el) } : World).heap = w.heap.push (.cells (ys.toList ++ []).toArray el (0, 0)) := by simp
  obtain ⟨h3, h4⟩ := new_row r ha fr k2 (fun _ => rfl) (nofz _) hw rfl rfl rfl
  refine ⟨.slice (some ⟨w.heap.size, 0, none⟩) len len, _, upd m l w.heap.size, ?_, V_own (by simp [upd]) (Nat.le_refl _) (fun c hc => by simpa using hc) (fun hc => by cases hc), h3, h4⟩
  have hle : ¬ len * s > 2 ^ 24 := by omega
  simp only [Instr.buildSlice, Sem.run_bind, run_underlying' (elemT_some he), Result.andThen_ok, run_sizeOf' hs]
  rw [if_neg hle]
  by_cases h0 : len * s = 0
  · rw [if_pos h0]
    have hk : Instr.fill (fun i => some (i * s, s)) ((Array.range (len * s)).map fun i => (#[] : Array Value)[i % (#[] : Array Value).size]!) us.toList = some ys := by
      rw [h0, map_range0] at k1 ⊢; exact k1
    simp only [Sem.run_pure, pure_bind, Sem.run_bind, hk]
    simp [newRow]
  · rw [if_neg h0]
    simp only [pure_bind, Sem.run_bind, hv1, Result.andThen_ok, Sem.run_pure, hvl, k1]
    simp [newRow]

theorem run_makeSlice (r : HRel P m Z h w) {t : TypeId} {n c x : AVal} {vn vc : Value} (e : makeSliceA P h slot t n c = some (x, h'))
    (fr : Free m h base slot) (hn : V P m Z w n vn) (hc : V P m Z w c vc) : Gives P m Z base slot lb h w (Instr.makeSlice t vn vc) x h' := by
  simp only [makeSliceA, Option.bind_eq_bind, Option.bind_eq_some_iff] at e
  obtain ⟨el, he, s, hs, by_, hb, z, hz, _, hg2, e⟩ := e
  have hg2 := of_decide_eq_true (gd_some hg2)
  split at e
  case h_2 => cases e
  rename_i i j
  split at e
  case isFalse => cases e
  rename_i hcond
  simp only [Option.bind_eq_bind, Option.bind_eq_some_iff] at e
  obtain ⟨⟨l, h1⟩, ha, e⟩ := e
  simp only [Option.some.injEq, Prod.mk.injEq] at e
  obtain ⟨rfl, rfl⟩ := e
  simp only [V] at hn hc
  subst hn; subst hc
  obtain ⟨c1, c2, c3, c4⟩ := hcond
  obtain ⟨v, hv1, hv2⟩ := run_zero (m := m) (Z := Z) hz w
  have hvl : v.cells.size = s := by have := hv2.length; simp at this; omega
  have hzs := hv2.zeros j.toNat
  have hrz := range_zeros v.cells j.toNat
  rw [hvl] at hrz
  rw [← hrz] at hzs
  have hw : ({ w with heap := w.heap.push (.cells ((Array.range (j.toNat * s)).map fun i => v.cells[i % v.cells.size]!) el) } : World).heap = w.heap.push (.cells (((Array.range (j.toNat * s)).map fun i => v.cells[i % v.cells.size]!).toList ++ []).toArray el (0, 0)) := by rw [List.append_nil, Array.toArray_toList]
  rw [hvl] at hw
  obtain ⟨h3, h4⟩ := new_row r ha fr hzs (fun _ => rfl) (nofz _) hw rfl rfl rfl
  refine ⟨.slice (some ⟨w.heap.size, 0, none⟩) i.toNat j.toNat, _, upd m l w.heap.size, ?_, V_own (by simp [upd]) (by omega) (fun c hc => by simpa using hc) (fun hc => by cases hc), h3, h4⟩
  have hwi : IntKind.i64.wrap i = i := by unfold IntKind.wrap; simp [IntKind.bits, IntKind.signed]; omega
  have hwj : IntKind.i64.wrap j = j := by unfold IntKind.wrap; simp [IntKind.bits, IntKind.signed]; omega
  obtain ⟨ti, hti, rfl⟩ : ∃ ti, P.info? el = some ti ∧ ti.bytes = by_ := by
    unfold bytesOf at hb
    simpa using hb
  have t1 : ((j < 0 || (ti.bytes : Int) * j > 2 ^ 48) : Bool) = false := by simp; omega
  have t2 : ¬ (((j < 0 || (ti.bytes : Int) * j > 2 ^ 48) : Bool) || i < 0 || i > j) = true := by rw [t1]; simp; omega
  simp only [Instr.makeSlice, Sem.run_bind, run_underlying' (elemT_some he), Result.andThen_ok, asInt, asIntOf, Sem.run_pure, run_typeInfo' hti, hwi, hwj]
  rw [if_neg t2]
  simp only [pure_bind, Sem.run_bind, run_askRoom, Result.andThen_ok, run_sizeOf' hs]
  by_cases h0 : j.toNat * s = 0
  · rw [if_pos h0]
    simp only [pure_bind, Sem.run_bind, Sem.run_pure, Result.andThen_ok, newRow, run_newObj, h0, map_range0]
  · rw [if_neg h0]
    simp only [pure_bind, Sem.run_bind, hv1, Sem.run_pure, Result.andThen_ok, newRow, run_newObj, hvl]

/-! ### slices cut -/
def OptV (P : Program) (m : Nat → Option Nat) (Z : Nat → Prop) (w : World) (x : Option AVal) (v : Option Value) : Prop := match x, v with | none, none => True | some a, some u => V P m Z w a u | _, _ => False

theorem run_bound {x : Option AVal} {v : Option Value} {d y n : Nat} (e : boundA x d y = some n) (hx : OptV P m Z w x v)
    (code : BoundsCode) : (v = none ∧ n = d) ∨ ∃ u, v = some u ∧ (Instr.sliceBound u y code).run P w = .ok n w ∧ n ≤ y := by
  unfold boundA at e
  split at e
  · simp at e; subst e
    cases v with
    | none => exact .inl ⟨rfl, rfl⟩
    | some u => exact hx.elim
  · rename_i k i
    split at e
    case isFalse => cases e
    rename_i hc
    simp at e; subst e
    cases v with
    | none => exact hx.elim
    | some u =>
      simp only [OptV, V] at hx
      subst hx
      refine .inr ⟨_, rfl, ?_, by omega⟩
      simp only [Instr.sliceBound, asIntOf, pure_bind]
      rw [if_pos hc]
      rfl
  · cases e


theorem evalO_V {n : Nat} {env : List AVal} {a : Act} (he : EnvR P m Z w n env a.tmps) {x : Option Operand} {v : Option AVal} (e : evalO env x = some v) : OptV P m Z w v (x.map a.eval) := by
  cases x with
  | none => simp [evalO] at e; subst e; trivial
  | some x =>
    simp only [evalO, Option.map_eq_some_iff] at e
    obtain ⟨u, h1, rfl⟩ := e
    exact evalA_V he h1

/-- a cut's bounds -/
theorem run_bounds2 {lo hi : Option AVal} {vl vh : Option Value} {isS : Bool} {len cap y k n : Nat} (hlo : OptV P m Z w lo vl) (hhi : OptV P m Z w hi vh)
    (eh : boundA hi len y = some n) (ek : boundA lo 0 n = some k) (hy : y ≤ cap) (hl : len ≤ cap) : (Instr.sliceBounds isS len cap vl vh none).run P w = .ok (k, n, cap) w ∧ k ≤ n ∧ n ≤ cap := by
  have A : vh = none ∧ n = len ∨ ∃ u, vh = some u ∧ (∀ code, (Instr.sliceBound u cap code).run P w = .ok n w) ∧ n ≤ cap := by
    unfold boundA at eh
    split at eh
    · simp at eh; subst eh
      cases vh with
      | none => exact .inl ⟨rfl, rfl⟩
      | some u => exact hhi.elim
    · rename_i q i
      split at eh
      case isFalse => cases eh
      rename_i hc
      simp at eh; subst eh
      cases vh with
      | none => exact hhi.elim
      | some u =>
        simp only [OptV, V] at hhi
        subst hhi
        refine .inr ⟨_, rfl, fun code => ?_, by omega⟩
        simp only [Instr.sliceBound, asIntOf, pure_bind]
        rw [if_pos (by omega)]
        rfl
    · cases eh
  have B := run_bound (P := P) (m := m) (Z := Z) (w := w) (v := vl) ek hlo
  have hn : n ≤ cap := by rcases A with ⟨_, rfl⟩ | ⟨_, _, _, h⟩ <;> omega
  refine ⟨?_, ?_, hn⟩
  · rcases A with ⟨rfl, rfl⟩ | ⟨u, rfl, h1, _⟩ <;> rcases B .sliceB with ⟨rfl, rfl⟩ | ⟨u', rfl, h2, _⟩
    · simp [Instr.sliceBounds]
    · simp [Instr.sliceBounds, h2]
    · simp [Instr.sliceBounds, h1]
    · simp [Instr.sliceBounds, h1, h2]
  · rcases B .sliceB with ⟨_, rfl⟩ | ⟨_, _, _, h⟩ <;> omega

theorem str_extract (s : List UInt8) (k n : Nat) : (⟨s.toArray⟩ : ByteArray).extract k n = ⟨((s.take n).drop k).toArray⟩ := by
  have : ((⟨s.toArray⟩ : ByteArray).extract k n).data = (s.toArray).extract k n := ByteArray.data_extract
  cases hh : (⟨s.toArray⟩ : ByteArray).extract k n with
  | mk d =>
    rw [hh] at this
    simp only at this
    rw [this]
    congr 1
    rw [List.extract_toArray]
    congr 1
    simp [List.extract_eq_take_drop, List.drop_take]

theorem run_slice {t : TypeId} {a x : AVal} {v : Value} {lo hi mx : Option AVal} {vl vh vm : Option Value} (e : sliceA P t a lo hi mx = some x) (ha : V P m Z w a v)
    (hlo : OptV P m Z w lo vl) (hhi : OptV P m Z w hi vh) (hmx : OptV P m Z w mx vm) : ∃ u, (Instr.sliceAt t v vl vh vm).run P w = .ok u w ∧ V P m Z w x u := by
  unfold sliceA at e
  split at e
  · rename_i s hu
    simp only [Option.bind_eq_bind, Option.bind_eq_some_iff] at e
    obtain ⟨_, hg, n, h1, k, h2, e⟩ := e
    have hg := gd_some hg
    have : mx = none := by simpa using hg
    subst this
    cases vm with
    | some _ => exact hmx.elim
    | none =>
    simp at e; subst e
    simp only [V] at ha ⊢
    subst ha
    obtain ⟨h3, h4, h5⟩ := run_bounds2 (isS := false) hlo hhi h1 h2 (Nat.le_refl _) (Nat.le_refl _)
    refine ⟨_, ?_, rfl⟩
    have hsz : (⟨s.toArray⟩ : ByteArray).size = s.length := rfl
    simp only [Instr.sliceAt, Instr.slice, Sem.run_bind, run_underlying' hu, Result.andThen_ok, Option.isSome_none, Bool.false_eq_true, if_false, pure_bind, hsz, h3, Sem.run_pure]
    rw [str_extract]
  · rename_i el l off len cap hu
    simp only [Option.bind_eq_bind, Option.bind_eq_some_iff] at e
    obtain ⟨sz, hs, e⟩ := e
    simp only [V] at ha
    obtain ⟨b, ad, cp, hb, rfl, g1, g2, g3, g4⟩ := ha
    have hcap : cap.getD len ≤ cp := by
      cases cap with
      | none => exact g1
      | some c => have := g3 c rfl; simp; omega
    split at e
    · simp only [Option.bind_eq_bind, Option.bind_eq_some_iff] at e
      obtain ⟨n, h1, k, h2, e⟩ := e
      simp at e; subst e
      cases vm with
      | some _ => exact hmx.elim
      | none =>
      obtain ⟨h3, h4, h5⟩ := run_bounds2 (isS := true) hlo hhi h1 h2 hcap g1
      refine ⟨.slice (if cp = k then some ad else (some ad).map (·.add (k * sz))) (n - k) (cp - k), by simp only [Instr.sliceAt, Instr.slice, Sem.run_bind, run_underlying' hu, Result.andThen_ok, h3, run_sizeOf' hs, Sem.run_pure], ?_⟩
      simp only [V]
      have hx : (if cp = k then some ad else (some ad).map (·.add (k * sz))) = some (if cp = k then ad else ad.add (k * sz)) := by split <;> rfl
      rw [hx]
      refine ⟨b, _, cp - k, hb, rfl, by omega, fun hne => ?_, fun c hc => ?_, fun hc ho => ?_⟩
      · have : ¬ cp = k := by omega
        rw [if_neg this, g2 (by omega), add_none]
      · simp only [Option.map_eq_some_iff] at hc
        obtain ⟨c', hc', rfl⟩ := hc
        have := g3 c' hc'
        omega
      · simp at hc
        obtain ⟨e', kk, q1, q2⟩ := g4 hc (by omega)
        exact ⟨e', kk, q1, Nat.le_trans (Nat.mul_le_mul_right _ (Nat.sub_le _ _)) q2⟩
    · rename_i mv
      simp only [Option.bind_eq_bind, Option.bind_eq_some_iff] at e
      obtain ⟨_, hg, mm, h0, n, h1, k, h2, e⟩ := e
      have hg := gd_some hg
      simp at e; subst e
      cases vm with
      | none => exact hmx.elim
      | some um =>
      cases hi with
      | none => simp at hg
      | some ah =>
      cases vh with
      | none => exact hhi.elim
      | some uh =>
      rcases run_bound (P := P) (m := m) (Z := Z) (w := w) (v := some um) h0 hmx .slice3Acap with ⟨hh, _⟩ | ⟨u0, hu0, r0, l0⟩
      · cases hh
      simp at hu0; subst hu0
      have r0' : (Instr.sliceBound um cp .slice3Acap).run P w = .ok mm w := by
        unfold boundA at h0
        split at h0
        · rename_i hn; cases hn
        · rename_i q i hq
          simp only [Option.some.injEq] at hq; subst hq
          split at h0
          case isFalse => cases h0
          rename_i hc
          simp at h0; subst h0
          simp only [OptV, V] at hmx
          subst hmx
          simp only [Instr.sliceBound, asIntOf, pure_bind]
          rw [if_pos (by omega)]
          rfl
        · cases h0
      rcases run_bound (P := P) (m := m) (Z := Z) (w := w) (v := some uh) h1 hhi .slice3B with ⟨hh, _⟩ | ⟨u1, hu1, r1, l1⟩
      · cases hh
      simp at hu1; subst hu1
      have r2 := run_bound (P := P) (m := m) (Z := Z) (w := w) (v := vl) h2 hlo .slice3C
      have hbnd : (Instr.sliceBounds true len cp vl (some uh) (some um)).run P w = .ok (k, n, mm) w ∧ k ≤ n := by
        rcases r2 with ⟨rfl, rfl⟩ | ⟨u2, rfl, r2, l2⟩
        · simp [Instr.sliceBounds, r0', r1]
        · simp [Instr.sliceBounds, r0', r1, r2, l2]
      refine ⟨.slice (if mm = k then some ad else (some ad).map (·.add (k * sz))) (n - k) (mm - k), by simp only [Instr.sliceAt, Instr.slice, Sem.run_bind, run_underlying' hu, Result.andThen_ok, hbnd.1, run_sizeOf' hs, Sem.run_pure], ?_⟩
      simp only [V]
      have hx : (if mm = k then some ad else (some ad).map (·.add (k * sz))) = some (if mm = k then ad else ad.add (k * sz)) := by split <;> rfl
      rw [hx]
      refine ⟨b, _, mm - k, hb, rfl, by omega, fun hne => ?_, fun c hc => by simpa using hc, fun hc => by cases hc⟩
      have : ¬ mm = k := by omega
      have hb2 := hbnd.2
      rw [if_neg this, g2 (by omega), add_none]
  · rename_i el isNil xs hu
    simp only [Option.bind_eq_bind, Option.bind_eq_some_iff] at e
    obtain ⟨_, hg, sz, hso, n, h1, k, h2, _, hall, e⟩ := e
    have hg := gd_some hg
    have hall := gd_some hall
    have : mx = none := by simpa using hg
    subst this
    cases vm with
    | some _ => exact hmx.elim
    | none =>
    simp at e; subst e
    simp only [V] at ha
    obtain ⟨bs, cp, rfl, g1, g2, g3, g4⟩ := ha
    obtain ⟨h3, h4, h5⟩ := run_bounds2 (isS := true) hlo hhi h1 h2 g1 g1
    have hnl : n ≤ xs.length := by
      unfold boundA at h1
      split at h1
      · simp at h1; omega
      · split at h1
        · simp at h1; omega
        · cases h1
      · cases h1
    refine ⟨.slice (if cp = k then bs else bs.map (·.add (k * sz))) (n - k) (cp - k), by simp only [Instr.sliceAt, Instr.slice, Sem.run_bind, run_underlying' hu, Result.andThen_ok, h3, run_sizeOf' hso, Sem.run_pure], ?_⟩
    simp only [V]
    have hlen : ((xs.take n).drop k).length = n - k := by simp; omega
    refine ⟨if cp = k then bs else bs.map (·.add (k * sz)), cp - k, by rw [hlen], by rw [hlen]; omega, ?_, fun hn => ?_, fun hne => ?_⟩
    · rw [← g2]; split <;> simp
    · obtain ⟨rfl, rfl⟩ := g3 hn
      simp
    · have hxs : xs ≠ [] := fun h0 => hne (by simp [h0])
      obtain ⟨b, o, s', rfl, q1, q2⟩ := g4 hxs
      have hkn : k < n := by
        rcases Nat.lt_or_ge k n with h | h
        · exact h
        · exact absurd (List.eq_nil_of_length_eq_zero (by rw [hlen]; omega)) hne
      have : ¬ cp = k := by omega
      rw [if_neg this]
      simp only [Option.map_some, add_none]
      refine ⟨b, o + k * sz, s', rfl, q1, ?_⟩
      simp only [Bool.or_eq_true, decide_eq_true_eq] at hall
      rcases hall with rfl | hall
      · simpa using q2.take n
      · have hs : s' = sz := by
          cases xs with
          | nil => exact absurd rfl hxs
          | cons c cs =>
            simp only [VR] at q2
            simp only [List.all_cons, Bool.and_eq_true, beq_iff_eq] at hall
            exact q2.1.symm.trans hall.1
        subst hs
        exact (q2.take n).drop k
  · rename_i n' el l off hu
    simp only [Option.bind_eq_bind, Option.bind_eq_some_iff] at e
    obtain ⟨_, hg, sz, hs, n, h1, k, h2, e⟩ := e
    have hg := gd_some hg
    have : mx = none := by simpa using hg
    subst this
    cases vm with
    | some _ => exact hmx.elim
    | none =>
    simp at e; subst e
    simp only [V] at ha
    obtain ⟨b, hb, rfl⟩ := ha
    obtain ⟨h3, h4, h5⟩ := run_bounds2 (isS := false) hlo hhi h1 h2 (Nat.le_refl _) (Nat.le_refl _)
    refine ⟨.slice (some (if n' = k then ⟨b, off, none⟩ else (⟨b, off, none⟩ : Addr).add (k * sz))) (n - k) (n' - k), by simp only [Instr.sliceAt, Instr.sureAddr, Sem.run_bind, run_underlying' hu, Result.andThen_ok, Sem.run_pure, h3, run_sizeOf' hs], ?_⟩
    simp only [V]
    refine ⟨b, _, n' - k, hb, rfl, by omega, fun hne => ?_, fun c hc => by simpa using hc, fun hc => by cases hc⟩
    have : ¬ n' = k := by omega
    rw [if_neg this, add_none]
  · cases e
end Go.Abs
