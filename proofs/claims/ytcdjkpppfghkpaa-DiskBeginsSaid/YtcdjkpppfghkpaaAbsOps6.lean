/-
  Operations of the machine of values against the model's: conversions, append, copy, clear.
-/
import Derived.Test.YtcdjkpppfghkpaaAbsOps5
set_option linter.unusedSimpArgs false
set_option linter.unusedVariables false
namespace Go.Abs
open Go

variable {P : Program} {m : Nat → Option Nat} {Z : Nat → Prop} {h h' : Heap} {w : World} {base : Nat} {slot : Option Nat} {lb : Nat → Prop}

theorem AtMem.heap {w w2 : World} (e : w2.heap = w.heap) {b o : Nat} {vs : List Value} (a : AtMem w b o vs) : AtMem w2 b o vs := fun j v hj => by
  have := a j v hj
  simp only [World.cell?] at this ⊢
  rw [e]; exact this

theorem run_loadCells' {b o : Nat} {vs : List Value} {ad : Addr} (ha : vs ≠ [] → ad = ⟨b, o, none⟩) (hm : AtMem w b o vs) : (loadCells ad vs.length).run P w = .ok vs.toArray w := by
  by_cases hn : vs = []
  · subst hn; simp [loadCells, loadCellsFrom]
  · rw [ha hn]
    exact run_loadCells_list w _ vs fun j v hj => by rw [add_none]; exact hm j v hj

theorem bytes_vals (s : List UInt8) : (s.map fun b => Value.int .u8 (b.toNat : Int)) = (s.map fun b => Value.int .u8 b.toNat) := rfl

def bv (s : List UInt8) : List Value := s.map fun b => .int .u8 (b.toNat : Int)
theorem bv_length (s : List UInt8) : (bv s).length = s.length := by simp [bv]

theorem ofByte_VS (s : List UInt8) : VS P m Z w (s.map ofByte) (bv s) := by
  induction s with
  | nil => simp [bv, VS]
  | cons b s ih => simp only [bv, List.map_cons, VS]; exact ⟨_, _, rfl, by simp only [ofByte, V], ih⟩

theorem run_src (r : HRel P m Z h w) {s : AVal} {v : Value} {size n : Nat} {cs : List AVal} (e : srcCells h size n s = some cs) (hv : V P m Z w s v) :
    ∃ us : List Value, VS P m Z w cs us ∧ us.length = n * size ∧ ∀ w2 : World, w2.heap = w.heap → (Builtin.firstCells size n v).run P w2 = .ok us.toArray w2 := by
  unfold srcCells at e
  split at e
  · rename_i l off len cap
    split at e
    case h_2 => cases e
    rename_i blk hb
    split at e
    case isFalse => cases e
    rename_i hc
    obtain ⟨c1, c2⟩ := hc
    simp at e; subst e
    simp only [V] at hv
    obtain ⟨b, a, cp, hm, rfl, g1, g2, _, _⟩ := hv
    obtain ⟨b', hb', row⟩ := r.row l blk hb
    rw [hm] at hb'; simp at hb'; subst hb'
    obtain ⟨vs, k1, k2⟩ := row.mem
    have hl := k1.length
    have hlen : ((vs.drop off).take (n * size)).length = n * size := by simp; omega
    refine ⟨(vs.drop off).take (n * size), (k1.drop _).take _, hlen, fun w2 hw2 => ?_⟩
    have hmem : AtMem w2 b off ((vs.drop off).take (n * size)) := by
      have := ((k2.drop off).take (n * size)).heap hw2
      rwa [Nat.zero_add] at this
    have := run_loadCells' (P := P) (w := w2) (ad := a) (fun hne => g2 (fun h0 => by
      have : n = 0 := by omega
      subst this
      simp at hne)) hmem
    rw [hlen] at this
    simpa [Builtin.firstCells] using this
  · rename_i isNil xs
    split at e
    case isFalse => cases e
    rename_i hc
    obtain ⟨c1, c2⟩ := hc
    simp at e; subst e
    simp only [V] at hv
    obtain ⟨bs, cp, rfl, g1, g2, g3, g4⟩ := hv
    by_cases hn : n = 0
    · subst hn
      refine ⟨[], by simp [VS], by simp, fun w2 _ => ?_⟩
      cases bs with
      | none => rfl
      | some a => simp [Builtin.firstCells, loadCells, loadCellsFrom]
    · have hne : xs ≠ [] := fun h0 => by subst h0; simp at c1; omega
      obtain ⟨b, o, sz, rfl, q1, q2⟩ := g4 hne
      have hs : sz = size := by
        cases xs with
        | nil => exact absurd rfl hne
        | cons c cs =>
          simp only [VR] at q2
          obtain ⟨n', rfl⟩ := Nat.exists_eq_succ_of_ne_zero hn
          simp only [List.take_succ_cons, List.all_cons, Bool.and_eq_true, beq_iff_eq] at c2
          exact q2.1.symm.trans c2.1
      subst hs
      obtain ⟨us, k1, k2, k3⟩ := (q2.take n).flat
      have hl : us.length = n * sz := by rw [k3, List.length_take, Nat.min_eq_left c1]
      refine ⟨us, k1.wide, hl, fun w2 hw2 => ?_⟩
      have := run_loadCells' (P := P) (w := w2) (ad := ⟨b, o, none⟩) (fun _ => rfl) (k2.heap hw2)
      rw [hl] at this
      simpa [Builtin.firstCells] using this
  · rename_i s
    split at e
    case isFalse => cases e
    rename_i hc
    obtain ⟨c1, rfl⟩ := hc
    simp only [Option.some.injEq] at e; subst e
    simp only [V] at hv; subst hv
    refine ⟨bv (s.take n), ofByte_VS _, by rw [bv_length]; simp; omega, fun w2 _ => ?_⟩
    simp only [Builtin.firstCells, Sem.run_pure]
    rw [str_extract]
    simp [bv]
  · cases e

theorem run_lenOf {s : AVal} {v : Value} {n : Nat} (e : lenA s = some n) (hv : V P m Z w s v) (w2 : World) : (Builtin.lenOf v).run P w2 = .ok n w2 := by
  unfold lenA at e
  split at e <;> first | cases e | skip
  · simp only [V] at hv; obtain ⟨b, a, cp, _, rfl, _⟩ := hv; rfl
  · simp only [V] at hv; obtain ⟨bs, cp, rfl, _⟩ := hv; rfl
  · simp only [V] at hv; subst hv; rfl

theorem isU8_some {e : TypeId} (hu : isU8 P e = true) : P.underlying e = some (.int .u8) ∧ sizeOf P e = some 1 := by
  unfold isU8 at hu
  split at hu
  · exact ⟨by assumption, of_decide_eq_true hu⟩
  · cases hu

theorem push_bytes : ∀ (cs : List AVal) (us : List Value) (bs : List UInt8) (acc : ByteArray), mapO byteOf cs = some bs → VS P m Z w cs us →
    (forIn us acc (fun (c : Value) (s : ByteArray) => (match c with
      | .int .u8 n => pure (ForInStep.yield (s.push (UInt8.ofNat n.toNat)))
      | _ => do
        (stuck "bytesToString: byte expected" : Sem Unit)
        pure (ForInStep.yield s) : Sem (ForInStep ByteArray)))).run P w = .ok ⟨(acc.data.toList ++ bs).toArray⟩ w
  | [], us, bs, acc, e, hv => by
    simp [mapO] at e; subst e
    simp only [VS] at hv; subst hv
    simp
  | c :: cs, us, bs, acc, e, hv => by
    simp only [mapO] at e
    split at e
    · cases e
    rename_i b hb
    split at e
    · cases e
    rename_i bs' hbs
    simp at e; subst e
    simp only [VS] at hv
    obtain ⟨u, us', rfl, h1, h2⟩ := hv
    unfold byteOf at hb
    split at hb
    case h_2 => cases hb
    rename_i n
    simp at hb; subst hb
    simp only [V] at h1; subst h1
    rw [List.forIn_cons]
    have ih := push_bytes cs us' bs' (acc.push (UInt8.ofNat n.toNat)) hbs h2
    simp only [pure_bind, Sem.run_bind, Sem.run_pure, Result.andThen_ok, ih]
    simp [ByteArray.push]

theorem run_conv (r : HRel P m Z h w) {src dst : TypeId} {a x : AVal} {v : Value} (e : convA P h slot src dst a = some (x, h')) (fr : Free m h base slot) (ha : V P m Z w a v) :
    Gives P m Z base slot lb h w (convert src dst v) x h' := by
  unfold convA at e
  split at e
  · rename_i k' n hs hd
    simp at e; obtain ⟨rfl, rfl⟩ := e
    simp only [V] at ha; subst ha
    exact Gives.same r (by simp [convert, run_underlying' hs, run_underlying' hd, Conv.intToInt]) (V_int _ _)
  · rename_i s hs hd
    simp at e; obtain ⟨rfl, rfl⟩ := e
    have h0 := ha
    simp only [V] at ha; subst ha
    exact Gives.same r (by simp [convert, run_underlying' hs, run_underlying' hd]) h0
  · rename_i el s hs hd
    split at e
    case isFalse => cases e
    rename_i hu
    obtain ⟨hu, hs1⟩ := isU8_some hu
    simp only [Option.bind_eq_bind, Option.bind_eq_some_iff] at e
    obtain ⟨⟨l, h1⟩, hal, e⟩ := e
    simp at e; obtain ⟨rfl, rfl⟩ := e
    simp only [V] at ha; subst ha
    have hsz : (⟨s.toArray⟩ : ByteArray).size = s.length := rfl
    obtain ⟨cap, hcap, hq⟩ : ∃ cap, s.length ≤ cap ∧ (choose (.appendCap s.length 0 el)).run P w = .ok cap { w with drawn := w.drawn + 1 } := by
      refine ⟨_, ?_, by rw [run_choose]; rfl⟩
      simp only [Question.cut]; omega
    have hw : (({ w with heap := w.heap.push (.cells (bv s ++ List.replicate (cap - s.length) (Value.int .u8 0)).toArray el (cap, cap + 1)), drawn := w.drawn + 1 } : World)).heap
        = w.heap.push (.cells (bv s ++ List.replicate (cap - s.length) (Value.int .u8 0)).toArray el (cap, cap + 1)) := rfl
    obtain ⟨h3, h4⟩ := new_row r hal fr (ofByte_VS (P := P) (m := m) (Z := Z) (w := w) s) (fun h => by cases h) (fun j hj => by rw [bv_length, List.length_replicate] at hj; simp only; omega) hw rfl rfl rfl
    refine ⟨.slice (some ⟨w.heap.size, 0, none⟩) s.length cap, _, upd m l w.heap.size, ?_, V_own (by simp [upd]) hcap (fun c hc => by cases hc) (fun _ _ => ⟨el, cap, ?_, ?_⟩), h3, h4⟩
    · simp only [convert, Sem.run_bind, run_underlying' hs, run_underlying' hd, Result.andThen_ok, run_underlying' hu, Conv.stringToBytes, hsz, hq, newRow, run_newObj, Sem.run_pure, markStringish, run_shape]
      have harr : (s.toArray.map fun b => Value.int .u8 (b.toNat : Int)) ++ Array.replicate (cap - s.length) (Value.int .u8 0) = (bv s ++ List.replicate (cap - s.length) (Value.int .u8 0)).toArray := by
        simp [bv]
      rw [harr]
      have hshape : ({ w with heap := w.heap.push (.cells (bv s ++ List.replicate (cap - s.length) (Value.int .u8 0)).toArray el), drawn := w.drawn + 1 } : World).shape? w.heap.size = some (el, cap) := by
        simp [World.shape?, bv_length]; omega
      rw [hshape]
      simp only [run_freeze, Sem.run_bind, Result.andThen_ok, Sem.run_pure]
      congr 1
      simp only [World.freeze]
      rw [if_neg (by omega)]
      congr 1
      apply Array.ext_getElem?
      intro i
      rw [Array.getElem?_modify, Array.getElem?_push, Array.getElem?_push]
      by_cases hi : w.heap.size = i
      · subst hi; simp
      · simp [hi, show ¬ i = w.heap.size from fun h => hi h.symm]
    · simp [World.shape?, bv_length]; omega
    · rw [sizeOf_cellsOf hs1]; omega
  · rename_i a0 _ _ _ el hs hd hno
    split at e
    case isFalse => cases e
    rename_i hu
    obtain ⟨hu, hs1⟩ := isU8_some hu
    simp only [Option.bind_eq_bind, Option.bind_eq_some_iff] at e
    obtain ⟨n, hn, _, hg, cs, hcs, bs, hbs, e⟩ := e
    have hg := gd_some hg
    simp at e; obtain ⟨rfl, rfl⟩ := e
    obtain ⟨us, g1, g2, g3⟩ := run_src r hcs ha
    have g3 := g3 w rfl
    rw [Nat.mul_one] at g2
    refine Gives.same r (u := .string ⟨bs.toArray⟩) ?_ (by simp only [V])
    have key := push_bytes (P := P) cs us bs ByteArray.empty hbs g1
    have hend : (⟨(ByteArray.empty.data.toList ++ bs).toArray⟩ : ByteArray) = ⟨bs.toArray⟩ := by
      show (⟨(([] : List UInt8) ++ bs).toArray⟩ : ByteArray) = _
      rw [List.nil_append]
    rw [hend] at key
    have conv : ∀ (ad : Addr) (cp : Nat), v = .slice (some ad) n cp → (convert src dst v).run P w = .ok (.string ⟨bs.toArray⟩) w := fun ad cp hv => by
      subst hv
      have g3' : (loadCells ad n).run P w = .ok us.toArray w := by simpa [Builtin.firstCells] using g3
      simp only [convert, Sem.run_bind, run_underlying' hs, run_underlying' hd, Result.andThen_ok, run_underlying' hu, Conv.bytesToString, g3']
      rw [← Array.forIn_toList]
      exact congrArg (fun r : Result ByteArray => r.andThen fun a w' => Result.ok (Value.string a) w') key
    cases a0 with
    | own l off len cap =>
      simp only [V] at ha
      obtain ⟨b, ad, cp, _, rfl, _⟩ := ha
      simp [lenA] at hn; subst hn
      exact conv _ _ rfl
    | lst isNil xs =>
      simp only [V] at ha
      obtain ⟨bs', cp, rfl, q1, q2, q3, _⟩ := ha
      simp [lenA] at hn; subst hn
      cases bs' with
      | some ad => exact conv _ _ rfl
      | none =>
        obtain ⟨rfl, rfl⟩ := q3 (by simpa using q2.symm)
        have hus : us = [] := List.eq_nil_of_length_eq_zero (by simpa using g2)
        subst hus
        have hcs0 := g1.length
        have : cs = [] := List.eq_nil_of_length_eq_zero (by simpa using hcs0.symm)
        subst this
        simp [mapO] at hbs; subst hbs
        simp only [convert, Sem.run_bind, run_underlying' hs, run_underlying' hd, Result.andThen_ok, run_underlying' hu, Conv.bytesToString, Sem.run_pure]
        rfl
    | str _ => exact (hno _ rfl).elim
    | _ => simp [lenA] at hn
  · cases e

/-! ### append -/
/-- what an append comes to on its two roads -/
structure AppRoads (P : Program) (w : World) (elem : TypeId) (size n : Nat) (bs : Option Addr) (sLen sCap : Nat) (us : List Value) (zv : Value) (S : Sem Value) : Prop where
  room : sLen + n ≤ sCap → ∀ w' : World, (match bs with | some a => (storeCells (a.add (sLen * size)) us).run P w = .ok () w' | none => w' = w) → S.run P w = .ok (.slice bs (sLen + n) sCap) w'
  grow : ∀ (by_ : Nat) (vs : List Value), bytesOf P elem = some by_ → sCap < sLen + n → (2 * (sLen + n) + 1024) * by_ ≤ 140737488355328 → sLen + n ≤ 4611686018427387904 →
    (∀ w2 : World, w2.heap = w.heap → (Builtin.firstCells size sLen (.slice bs sLen sCap)).run P w2 = .ok vs.toArray w2) →
    ∀ cap, sLen + n ≤ cap → (choose (.appendCap (sLen + n) sCap elem)).run P w = .ok cap { w with drawn := w.drawn + 1 } →
    S.run P w = .ok (.slice (some ⟨w.heap.size, 0, none⟩) (sLen + n) cap) { w with heap := w.heap.push (.cells (vs.toArray ++ us.toArray ++ Builtin.zeroCells zv.cells (cap - (sLen + n))) elem (0, 0)), drawn := w.drawn + 1 }

theorem growBy_le (n : Nat) : ∀ (r c : Nat), c ≤ 2 * n + 1024 → Builtin.growBy n r c ≤ 2 * n + 1024
  | 0, c, hc => hc
  | r + 1, c, hc => by
    unfold Builtin.growBy
    split
    · exact hc
    · exact growBy_le n r _ (by omega)

theorem next_le {need c : Nat} (hc : c < need) : Builtin.nextslicecap need c ≤ 2 * need + 1024 := by
  unfold Builtin.nextslicecap
  split
  · omega
  · split
    · omega
    · exact growBy_le _ _ _ (by omega)

theorem bytesOf_some {t : TypeId} {b : Nat} (e : bytesOf P t = some b) : ∃ i, P.info? t = some i ∧ i.bytes = b := by
  unfold bytesOf at e; simpa using e

/-- the road on which a new row is made -/
theorem AppRoads.new {elem : TypeId} {size by_ n sLen sCap : Nat} {bs : Option Addr} {zv : Value} {us vs : List Value} {S : Sem Value} (R : AppRoads P w elem size n bs sLen sCap us zv S)
    (hby : bytesOf P elem = some by_) (hzs : zv.cells.size = size)
    (hn : sCap < sLen + n) (h1 : (2 * (sLen + n) + 1024) * by_ ≤ 140737488355328) (h2 : sLen + n ≤ 4611686018427387904)
    (hold : ∀ w2 : World, w2.heap = w.heap → (Builtin.firstCells size sLen (.slice bs sLen sCap)).run P w2 = .ok vs.toArray w2)
    (hul : us.length = n * size) (hvl : vs.length = sLen * size) :
    ∃ cap rest, sLen + n ≤ cap ∧ (vs ++ us).length + rest.length = cap * size ∧ S.run P w =
      .ok (.slice (some ⟨w.heap.size, 0, none⟩) (sLen + n) cap) { w with heap := w.heap.push (.cells ((vs ++ us) ++ rest).toArray elem (0, 0)), drawn := w.drawn + 1 } := by
  obtain ⟨cap, hcap, hq⟩ : ∃ cap, sLen + n ≤ cap ∧ (choose (.appendCap (sLen + n) sCap elem)).run P w = .ok cap { w with drawn := w.drawn + 1 } := by
    refine ⟨_, ?_, by rw [run_choose]; rfl⟩
    simp only [Question.cut]; omega
  refine ⟨cap, zerosV zv.cells.toList (cap - (sLen + n)), hcap, ?_, ?_⟩
  · rw [zerosV_length]
    simp only [List.length_append, hul, hvl, Array.length_toList, hzs]
    rw [← Nat.add_mul, ← Nat.add_mul]
    congr 1
    omega
  · rw [R.grow by_ vs hby hn h1 h2 hold cap hcap hq]
    have hzc : (Builtin.zeroCells zv.cells (cap - (sLen + n))).toList = zerosV zv.cells.toList (cap - (sLen + n)) := range_zeros _ _
    have harr : vs.toArray ++ us.toArray ++ Builtin.zeroCells zv.cells (cap - (sLen + n)) = (vs ++ us ++ zerosV zv.cells.toList (cap - (sLen + n))).toArray := by
      apply Array.ext'
      simp [hzc]
    rw [harr]

theorem run_zero' {t : TypeId} {z : List AVal} (e : zeroOf P t = some z) (w : World) : ∃ v, (∀ w2 : World, (zeroValue t).run P w2 = .ok v w2) ∧ VS P m Z w z v.cells.toList := by
  obtain ⟨i, v, a, h1, h2, h3, rfl⟩ := zeroOf_some e
  exact ⟨v, fun w2 => by simp [zeroValue, run_typeInfo' h1, h2], (ofValue_V h3).cells⟩

/-- a row's name is given up -/
theorem HRel.drop (r : HRel P m Z h w) (l : Nat) : HRel P m Z (h.set l none) w := by
  have hs : ∀ k blk, hget (h.set l none) k = some blk → hget h k = some blk ∧ k ≠ l := fun k blk e => by
    by_cases hl : l < h.length
    · rw [hget_set _ _ _ _ hl] at e
      split at e
      · cases e
      · exact ⟨e, by assumption⟩
    · rw [List.set_eq_of_length_le (by omega)] at e
      exact ⟨e, fun hk => hl (hk ▸ hget_lt e)⟩
  exact ⟨fun k blk e => r.row k blk (hs k blk e).1, fun k k' blk blk' b e e' => r.inj k k' blk blk' b (hs k blk e).1 (hs k' blk' e').1, fun k blk b e => r.apart k blk b (hs k blk e).1,
    fun k b e => by have := r.dom k b e; simpa using this, r.zdom⟩

theorem Step.drop {m' : Nat → Option Nat} {Z' : Nat → Prop} {w' : World} {l : Nat} (s : Step base slot lb m Z (h.set l none) w m' Z' h' w') (hl : base ≤ l) : Step base slot lb m Z h w m' Z' h' w' := by
  have hs : ∀ k blk, hget (h.set l none) k = some blk → hget h k = some blk := fun k blk e => by
    by_cases hl : l < h.length
    · rw [hget_set _ _ _ _ hl] at e
      split at e
      · cases e
      · exact e
    · rw [List.set_eq_of_length_le (by omega)] at e; exact e
  refine ⟨s.os, s.tape, s.output, s.size, s.mm, s.zz, fun b hb hn hlb => s.fr b hb (fun k blk hk e => hn k blk hk (hs k blk e)) hlb, s.shp, fun k hk => (s.keep k hk).trans ?_, by have := s.len; simpa using this,
    fun k blk b hk e e' => ?_, fun k hk hks => s.mo k (by simpa using hk) hks, s.zc, s.zn⟩
  · by_cases hll : l < h.length
    · rw [hget_set _ _ _ _ hll, if_neg (by omega)]
    · rw [List.set_eq_of_length_le (by omega)]
  · rcases s.foot k blk b hk e e' with h1 | ⟨l0, blk0, h1, h2, h3⟩
    · exact .inl h1
    · exact .inr ⟨l0, blk0, h1, hs _ _ h2, h3⟩

/-- a row goes on under a new name -/
theorem rename_rel (r : HRel P m Z h w) {l l' b : Nat} {blk blk' : Blk} {w' : World} (hblk : hget h l = some blk) (hm : m l = some b) (hb : base ≤ l) (fr : Free m h base slot)
    (hal : halloc (h.set l none) slot blk' = some (l', h')) (hrow : w'.heap[b]? = w'.heap[b]? → ∃ (us rest : List Value) (fz : Nat × Nat), w'.heap[b]? = some (.cells (us ++ rest).toArray blk'.elem fz) ∧ VS P m Z w blk'.cells us ∧ (blk'.ext = false → rest = []) ∧
      (∀ j, j < us.length + rest.length → ¬ (fz.1 ≤ j ∧ j < fz.2))) (hoth : ∀ k, k ≠ b → w'.heap[k]? = w.heap[k]?) (hsize : w'.heap.size = w.heap.size) (hsh : ∀ x, w.shape? b = some x → w'.shape? b = some x)
    (ho : w'.os = w.os) (ht : w'.tape = w.tape) (hp : w'.output = w.output) :
    HRel P (upd m l' b) Z h' w' ∧ Step base slot lb m Z h w (upd m l' b) Z h' w' := by
  obtain ⟨hg, hn, hlen, hlt, hone, hslot⟩ := halloc_get hal
  have hll := hget_lt hblk
  have hdom := r.dom l b hm
  have hl' : m l' = none ∧ base ≤ l' := by
    rcases hslot with ⟨_, rfl⟩ | hs
    · refine ⟨?_, by simpa using fr.le⟩
      cases hq : m (h.set l none).length with
      | none => rfl
      | some x => have := (r.dom _ _ hq).1; simp at this
    · exact fr.at_ _ hs
  have hne : l' ≠ l := fun e => by rw [e, hm] at hl'; cases hl'.1
  have hg' : ∀ k, hget h' k = if k = l' then some blk' else if k = l then none else hget h k := fun k => by rw [hg, hget_set _ _ _ _ hll]
  have mm : ∀ k b0, m k = some b0 → upd m l' b k = some b0 := fun k b0 hk => by
    unfold upd; split
    · rename_i h1; subst h1; rw [hl'.1] at hk; cases hk
    · exact hk
  have S : Step base slot lb m Z h w (upd m l' b) Z h' w' := by
    refine ⟨ho, ht, hp, by omega, mm, fun _ z => z, fun k hk hn' _ => hoth k fun e => hn' l blk hb hblk (e ▸ hm), fun k x hx => ?_, fun k hk => ?_, by simpa using hlen, fun k bk b0 hk e1 e2 => ?_, fun k hk hks => ?_, fun k o hz => cell_of_heap (hoth k fun e => r.apart l blk b hblk hm (e ▸ hz)), fun _ z => .inl z⟩
    · by_cases e : k = b
      · subst e; exact hsh x hx
      · unfold World.shape? at hx ⊢; rw [hoth k e]; exact hx
    · rw [hg', if_neg (by omega), if_neg (by omega)]
    · rw [hg'] at e1
      unfold upd at e2
      split at e1
      · rename_i h1; rw [if_pos h1] at e2; simp at e2; subst e2; exact .inr ⟨l, blk, hb, hblk, hm⟩
      · rename_i h1
        rw [if_neg h1] at e2
        split at e1
        · cases e1
        · exact .inr ⟨k, bk, hk, e1, e2⟩
    · unfold upd
      rw [if_neg]
      intro hkl; subst hkl
      rcases hslot with ⟨rfl, rfl⟩ | rfl
      · simp at hk
      · exact hks rfl
  have st := S.stays r
  refine ⟨⟨fun k bk e1 => ?_, fun k k' bk bk' b0 e1 e2 e3 e4 => ?_, fun k bk b0 e1 e2 => ?_, fun k b0 e1 => ?_, fun b0 hz => by have := r.zdom b0 hz; omega⟩, S⟩
  · rw [hg'] at e1
    split at e1
    · rename_i h1; subst h1
      simp at e1; subst e1
      obtain ⟨us, rest, fz, k1, k2, k3, k4⟩ := hrow rfl
      exact ⟨b, by simp [upd], ⟨us, rest, fz, k1, VS.stays st k2, k3, k4⟩, hone⟩
    · split at e1
      · cases e1
      · rename_i h1 h2
        obtain ⟨b2, hb2, ⟨us', rest', fz', k1, k2, k3, k4⟩, k5⟩ := r.row k bk e1
        have hne2 : b2 ≠ b := fun e => h2 (r.inj k l bk blk b e1 hblk (e ▸ hb2) hm)
        exact ⟨b2, mm _ _ hb2, ⟨us', rest', fz', by rw [hoth b2 hne2]; exact k1, VS.stays st k2, k3, k4⟩, k5⟩
  · rw [hg'] at e1 e2
    unfold upd at e3 e4
    split at e1 <;> rename_i h1
    · rw [if_pos h1] at e3
      simp at e3; subst e3
      split at e2 <;> rename_i h2
      · omega
      · rw [if_neg h2] at e4
        split at e2
        · cases e2
        · rename_i h3; exact absurd (r.inj k' l bk' blk b e2 hblk e4 hm) h3
    · rw [if_neg h1] at e3
      split at e1
      · cases e1
      rename_i h3
      split at e2 <;> rename_i h2
      · rw [if_pos h2] at e4; simp at e4; subst e4
        exact absurd (r.inj k l bk blk b e1 hblk e3 hm) h3
      · rw [if_neg h2] at e4
        split at e2
        · cases e2
        · exact r.inj k k' bk bk' b0 e1 e2 e3 e4
  · rw [hg'] at e1
    unfold upd at e2
    split at e1 <;> rename_i h1
    · rw [if_pos h1] at e2; simp at e2; subst e2; exact r.apart l blk b hblk hm
    · rw [if_neg h1] at e2
      split at e1
      · cases e1
      · exact r.apart k bk b0 e1 e2
  · unfold upd at e1
    split at e1 <;> rename_i h1
    · simp at e1; subst h1; subst e1; exact ⟨hlt, by omega⟩
    · have := r.dom k b0 e1; simp at hlen; exact ⟨by omega, by omega⟩

theorem run_appTail (r : HRel P m Z h w) {elem : TypeId} {n : Nat} {s x : AVal} {vs : Value} {new : List AVal} {us : List Value} {S : Sem Value} {bs : Option Addr} {sLen sCap size : Nat} {zv : Value}
    (e : appendA P h base slot elem s n new = some (x, h')) (fr : Free m h base slot) (hv : V P m Z w s vs) (hvs : vs = .slice bs sLen sCap) (hsz : sizeOf P elem = some size)
    (hzs : zv.cells.size = size) (hu : VS P m Z w new us) (R : AppRoads P w elem size n bs sLen sCap us zv S) :
    Gives P m Z base slot lb h w S x h' := by
  simp only [appendA, Option.bind_eq_bind, Option.bind_eq_some_iff, hsz] at e
  obtain ⟨_, hs', by_, hby, _, hl1, _, hone, e⟩ := e
  simp at hs'; subst hs'
  have hl1 := of_decide_eq_true (gd_some hl1)
  have hone := gd_some hone
  have hul := hu.length
  have none0 : n = 0 → S.run P w = .ok (.slice bs sLen sCap) w ∨ sCap < sLen := fun h0 => by
    subst h0
    rcases Nat.lt_or_ge sCap sLen with hlt | hge
    · exact .inr hlt
    · left
      have hus : us = [] := List.eq_nil_of_length_eq_zero (by rw [hul, hl1]; simp)
      subst hus
      refine R.room (by simpa using hge) w ?_
      cases bs with
      | none => rfl
      | some a => rfl
  split at e
  · rename_i l off len cap
    have hv0 := hv
    simp only [V] at hv
    obtain ⟨b, ad, cp, hm, hvv, g1, g2, g3, g4⟩ := hv
    rw [hvv] at hvs
    simp only [Value.slice.injEq] at hvs
    obtain ⟨rfl, rfl, rfl⟩ := hvs
    split at e
    · rename_i h0
      simp at e; obtain ⟨rfl, rfl⟩ := e
      rcases none0 h0 with h1 | h1
      · exact Gives.same r h1 (hvv ▸ hv0)
      · omega
    rename_i hn0
    split at e
    · cases e
    rename_i blk hblk
    obtain ⟨b', hb', row⟩ := r.row l blk hblk
    rw [hm] at hb'; simp at hb'; subst hb'
    split at e
    · rename_i c
      have hc := g3 c rfl
      subst hc
      split at e
      · rename_i hle
        split at e
        · cases e
        rename_i hsz0
        simp only [Option.bind_eq_bind, Option.bind_eq_some_iff] at e
        obtain ⟨h1, hwr, e⟩ := e
        simp at e; obtain ⟨rfl, rfl⟩ := e
        obtain ⟨w', k1, k2, k3⟩ := write_rel r hwr hu hm
        have had := g2 (by omega)
        subst had
        refine ⟨.slice (some ⟨b, off, none⟩) (len + n) cp, w', m, ?_, ?_, k2, k3⟩
        · exact R.room hle w' (by simp only [add_none]; exact k1)
        · exact V_own (k3.mm _ _ hm) hle (fun c hc => by simpa using hc) (fun hc => by cases hc)
      · rename_i hgt
        split at e
        case isFalse => cases e
        rename_i hcnd
        obtain ⟨c1, c2, c3⟩ := hcnd
        simp only [Option.bind_eq_bind, Option.bind_eq_some_iff] at e
        obtain ⟨⟨l', h1⟩, hal, e⟩ := e
        simp at e; obtain ⟨rfl, rfl⟩ := e
        have hsrc : srcCells h size len (.own l off len (some cp)) = some ((blk.cells.drop off).take (len * size)) := by
          simp only [srcCells, hblk]; rw [if_pos ⟨Nat.le_refl _, c1⟩]
        obtain ⟨os, q1, q2, q3⟩ := run_src r hsrc (hvv ▸ hv0)
        obtain ⟨cap', rest, p1, p2, p3⟩ := R.new hby hzs (by omega) c2 c3 q3 (by rw [hul, hl1]) q2
        obtain ⟨h3, h4⟩ := new_row r hal fr (q1.append hu) (fun h => by cases h) (nofz _) (w' := { w with heap := w.heap.push (.cells ((os ++ us) ++ rest).toArray elem (0, 0)), drawn := w.drawn + 1 }) rfl rfl rfl rfl
        refine ⟨_, _, _, p3, V_own (by simp [upd]) p1 (fun c hc => by cases hc) (fun _ _ => ⟨elem, cap' * size, ?_, ?_⟩), h3, h4⟩
        · simp only [World.shape?, Array.getElem?_push_size]
          rw [← p2]; simp; omega
        · rw [sizeOf_cellsOf hsz]
          exact Nat.le_refl _
    · split at e
      case isFalse => cases e
      rename_i hcnd
      obtain ⟨c1, c2, c3, c4, c5, c6, c7⟩ := hcnd
      simp only [Option.bind_eq_bind, Option.bind_eq_some_iff] at e
      obtain ⟨⟨l', h1⟩, hal, e⟩ := e
      simp at e; obtain ⟨rfl, rfl⟩ := e
      subst c1
      have hsrc : srcCells h size len (.own l 0 len none) = some (blk.cells.take (len * size)) := by
        simp only [srcCells, hblk]; rw [if_pos ⟨Nat.le_refl _, by omega⟩]; simp
      obtain ⟨os, q1, q2, q3⟩ := run_src r hsrc (hvv ▸ hv0)
      rw [List.take_of_length_le (by omega)] at q1
      rcases Nat.lt_or_ge cp (len + n) with hlt | hge
      · obtain ⟨cap', rest, p1, p2, p3⟩ := R.new hby hzs hlt c5 c6 q3 (by rw [hul, hl1]) q2
        have fr' : Free m (h.set l none) base slot := ⟨by simpa using fr.le, fr.at_⟩
        obtain ⟨h3, h4⟩ := new_row (r.drop l) hal fr' (q1.append hu) (fun h => by cases h) (nofz _) (w' := { w with heap := w.heap.push (.cells ((os ++ us) ++ rest).toArray elem (0, 0)), drawn := w.drawn + 1 }) rfl rfl rfl rfl
        refine ⟨_, _, _, p3, V_own (by simp [upd]) p1 (fun c hc => by cases hc) (fun _ _ => ⟨elem, cap' * size, ?_, ?_⟩), h3, h4.drop c3⟩
        · simp only [World.shape?, Array.getElem?_push_size]
          rw [← p2]; simp; omega
        · rw [sizeOf_cellsOf hsz]
          exact Nat.le_refl _
      · have had := g2 (by omega)
        subst had
        obtain ⟨⟨us0, rest, fz, k1, k2, k3, k4⟩, k5⟩ := row
        obtain ⟨e', k, q5, q6⟩ := g4 rfl rfl
        have hsh : w.shape? b = some (blk.elem, us0.length + rest.length) := by simp [World.shape?, k1]
        rw [hsh] at q5
        simp only [Option.some.injEq, Prod.mk.injEq] at q5
        obtain ⟨rfl, rfl⟩ := q5
        rw [c4, sizeOf_cellsOf hsz] at q6
        have hl0 := k2.length
        have hroom : len * size + n * size ≤ us0.length + rest.length := by
          have := Nat.mul_le_mul_right size hge
          rw [Nat.add_mul] at this
          omega
        obtain ⟨w', t1, t2, t3, t4, t5, t6, t7⟩ := run_storeCells_own P b (len * size) blk.elem fz us 0 w (us0 ++ rest) k1 (by rw [hul, hl1]; simp; omega) (hu.oneCell hone) (by simpa using k4)
        have hsp : spliceV (us0 ++ rest) (len * size + 0) us = (us0 ++ us) ++ rest.drop (n * size) := by
          simp only [spliceV, Nat.add_zero, List.take_append, List.drop_append, hl0, hul, hl1, ← c2]
          rw [List.take_of_length_le (by omega), Nat.sub_self, List.take_zero, List.drop_of_length_le (by omega), Nat.add_sub_cancel_left]
          simp
        rw [hsp] at t2
        obtain ⟨h3, h4⟩ := rename_rel r hblk hm c3 fr hal (w' := w') (fun _ => ⟨us0 ++ us, rest.drop (n * size), fz, c4 ▸ t2, k2.append hu, (fun h => by cases h), fun j hj => k4 j (by
            simp [hul, hl1] at hj; omega)⟩) t3 t4 (fun x hx => by
            rw [hsh] at hx; simp at hx; subst hx
            simp only [World.shape?, t2]
            simp [hul, hl1]; omega) t5 t6 t7
        refine ⟨.slice (some ⟨b, 0, none⟩) (len + n) cp, w', _, ?_, V_own (by simp [upd]) hge (fun c hc => by cases hc) (fun _ _ => ⟨blk.elem, us0.length + rest.length, ?_, ?_⟩), h3, h4⟩
        · exact R.room hge w' (by simp only [add_none, Nat.zero_add]; exact t1)
        · simp only [World.shape?, t2]
          simp [hul, hl1]; omega
        · rw [c4, sizeOf_cellsOf hsz]; omega
  · rename_i isNil xs
    have hv0 := hv
    simp only [V] at hv
    obtain ⟨bs', cp, hvv, g1, g2, g3, g4⟩ := hv
    rw [hvv] at hvs
    simp only [Value.slice.injEq] at hvs
    obtain ⟨rfl, rfl, rfl⟩ := hvs
    split at e
    · rename_i h0
      simp at e; obtain ⟨rfl, rfl⟩ := e
      rcases none0 h0 with h1 | h1
      · exact Gives.same r h1 (hvv ▸ hv0)
      · omega
    rename_i hn0
    split at e
    case isFalse => cases e
    rename_i hcnd
    obtain ⟨c1, c2, c3, c4⟩ := hcnd
    simp only [Option.bind_eq_bind, Option.bind_eq_some_iff] at e
    obtain ⟨⟨l', h1⟩, hal, e⟩ := e
    simp at e; obtain ⟨rfl, rfl⟩ := e
    obtain ⟨rfl, rfl⟩ := g3 c1
    have hn1 : 0 < 0 + n := by omega
    have hn2 : 0 + n ≤ 4611686018427387904 := by omega
    obtain ⟨cap', rest, p1, p2, p3⟩ := R.new (vs := []) hby hzs hn1 (by simpa using c3) (by simpa using hn2)
      (fun w2 _ => by cases bs' <;> simp [Builtin.firstCells, loadCells, loadCellsFrom]) (by rw [hul, hl1]) (by simp)
    simp only [List.length_nil] at p1 p3
    rw [Nat.zero_add] at p1 p3
    rw [List.nil_append] at p2 p3
    obtain ⟨h3, h4⟩ := new_row r hal fr hu (fun h => by cases h) (nofz _) (w' := { w with heap := w.heap.push (.cells (us ++ rest).toArray elem (0, 0)), drawn := w.drawn + 1 }) rfl rfl rfl rfl
    refine ⟨_, _, _, p3, V_own (by simp [upd]) p1 (fun c hc => by cases hc) (fun _ _ => ⟨elem, cap' * size, ?_, ?_⟩), h3, h4⟩
    · simp only [World.shape?, Array.getElem?_push_size]
      rw [← p2]; simp
    · rw [sizeOf_cellsOf hsz]
      exact Nat.le_refl _
  · cases e
end Go.Abs
