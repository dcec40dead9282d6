/-
  The reckoner of conditions: how it is helped on where it stands still.
-/
import Derived.Test.YtcdjkpppfghkpaaAbsWt
set_option linter.unusedSimpArgs false
set_option linter.unusedVariables false
namespace Go.Abs
open Go

variable {C : Cfg} {P : Program} {base n : Nat} {slot : Option Nat} {e : Env} {env : List AVal} {h h' : Heap} {L L' : LS}

theorem wrap_i64 {z : Int} (h0 : -9223372036854775808 ≤ z) (h1 : z < 9223372036854775808) : IntKind.wrap .i64 z = z := by
  simp only [IntKind.wrap, IntKind.bits, IntKind.signed]
  simp
  omega

theorem Kwrap.fit {z : Int} {K : AVal → Prop} (h0 : -9223372036854775808 ≤ z ∧ z < 9223372036854775808) (hk : K (.int .i64 z)) : Kwrap z K := by
  exact .mk (by rw [wrap_i64 h0.1 h0.2]; exact hk)
theorem Kwrap.any {z : Int} {K : AVal → Prop} (hk : K (.int .i64 (IntKind.wrap .i64 z))) : Kwrap z K := .mk hk
theorem VIf.of {p K : Prop} (hp : p) (hk : K) : VIf p K := .mk hp hk
theorem VRow.of {l : Nat} {b : Blk} {K : Blk → Prop} (hb : hget h l = some b) (hk : K b) : VRow h l K := .mk b hb hk
theorem VWrite.of {l o : Nat} {vs : List AVal} {b : Blk} {K : Heap → Prop} (hb : hget h l = some b) (h1 : base ≤ l) (h2 : o + vs.length ≤ b.cells.length) (h3 : vs.all AVal.one = true)
    (hk : K (h.set l (some { b with cells := splice b.cells o vs }))) : VWrite h base l o vs K := by
  exact ⟨_, by simp only [write, hb]; rw [if_pos ⟨h1, h2, h3⟩], hk⟩
theorem VWrite.to {l o : Nat} {vs : List AVal} {b b' : Blk} {K : Heap → Prop} (hb : hget h l = some b) (h1 : base ≤ l) (h2 : Nat.ble (o + vs.length) b.cells.length = true) (h3 : vs.all AVal.one = true)
    (h4 : { b with cells := splice b.cells o vs } = b') (hk : K (h.set l (some b'))) : VWrite h base l o vs K := by
  subst h4
  exact .of hb h1 (Nat.le_of_ble_eq_true h2) h3 hk
theorem VWrite.as {l o : Nat} {vs : List AVal} {b b' : Blk} {K : Heap → Prop} (hb : hget h l = some b) (h1 : base ≤ l) (h2 : o + vs.length ≤ b.cells.length) (h3 : vs.all AVal.one = true)
    (h4 : { b with cells := splice b.cells o vs } = b') (hk : K (h.set l (some b'))) : VWrite h base l o vs K := by
  subst h4
  exact .of hb h1 h2 h3 hk
theorem splice_one {c : List AVal} {k : Nat} {v : AVal} (hk : k < c.length) : splice c k [v] = c.set k v := by
  rw [List.set_eq_take_append_cons_drop, if_pos hk]
  simp [splice]
theorem VAlloc.new {b : Blk} {K : Nat → Heap → Prop} (h1 : b.cells.all AVal.one = true) (hk : K h.length (h ++ [some b])) : VAlloc h none b K := by
  exact ⟨_, _, by simp only [halloc]; rw [if_pos h1], hk⟩
theorem VAlloc.at {b : Blk} {s : Nat} {K : Nat → Heap → Prop} (h1 : b.cells.all AVal.one = true) (hs : h[s]? = some none) (hk : K s (h.set s (some b))) : VAlloc h (some s) b K := by
  exact ⟨_, _, by simp only [halloc, hs]; rw [if_pos h1], hk⟩
theorem VNth.of {et : TypeId} {xs : List (List AVal)} {i : Int} {c : List AVal} {K : List AVal → Prop} (h0 : 0 ≤ i) (h1 : xs[i.toNat]? = some c) (h2 : sizeOf P et = some c.length) (hk : K c) : VNth P et xs i K := by
  exact ⟨c, h0, h1, h2, hk⟩
theorem VByte.of {s : List UInt8} {i : Int} {b : UInt8} {K : UInt8 → Prop} (h0 : 0 ≤ i) (h1 : s[i.toNat]? = some b) (hk : K b) : VByte s i K := by
  exact ⟨b, h0, h1, hk⟩
theorem byteOf_ofByte (b : UInt8) : byteOf (ofByte b) = some b := by simp [byteOf, ofByte]
theorem mapO_bytes (bs : List UInt8) : mapO byteOf (bs.map ofByte) = some bs := by
  induction bs with
  | nil => rfl
  | cons b bs ih => simp only [List.map_cons, mapO, byteOf_ofByte, ih]
theorem VBytes.of {cs : List AVal} {bs : List UInt8} {K : List UInt8 → Prop} (hc : cs = bs.map ofByte) (hk : K bs) : VBytes cs K := by
  subst hc; exact ⟨bs, mapO_bytes bs, hk⟩
theorem Kcond.by {b : Bool} {A B : Prop} (ht : b = true → A) (hf : b = false → B) : Kcond b A B := by cases b <;> simp_all [Kcond]
theorem Kcond.t {b : Bool} {A B : Prop} (hb : b = true) (ha : A) : Kcond b A B := by subst hb; exact ha
theorem Kcond.f {b : Bool} {A B : Prop} (hb : b = false) (ha : B) : Kcond b A B := by subst hb; exact ha
theorem Kcond.dec {p : Prop} [Decidable p] {A B : Prop} (ht : p → A) (hf : ¬ p → B) : Kcond (decide p) A B := by
  by_cases h : p
  · rw [decide_eq_true h]; exact ht h
  · rw [decide_eq_false h]; exact hf h
theorem Kcond.not {b : Bool} {A B : Prop} (hk : Kcond b B A) : Kcond (!b) A B := by cases b <;> exact hk
theorem Kcond.eqI {a b : Int} {A B : Prop} (ht : a = b → A) (hf : a ≠ b → B) : Kcond (a == b) A B := by
  by_cases h : a = b
  · rw [show (a == b) = true by simpa using h]; exact ht h
  · rw [show (a == b) = false by simpa using h]; exact hf h
theorem Kcond.neI {a b : Int} {A B : Prop} (ht : a ≠ b → A) (hf : a = b → B) : Kcond (a != b) A B := by
  by_cases h : a = b
  · rw [show (a != b) = false by simpa using h]; exact hf h
  · rw [show (a != b) = true by simpa using h]; exact ht h
theorem Kcond.eqS {a b : List UInt8} {A B : Prop} (ht : a = b → A) (hf : a ≠ b → B) : Kcond (a == b) A B := by
  by_cases h : a = b
  · rw [show (a == b) = true by simpa using h]; exact ht h
  · rw [show (a == b) = false by simpa using h]; exact hf h
theorem Kcond.neS {a b : List UInt8} {A B : Prop} (ht : a ≠ b → A) (hf : a = b → B) : Kcond (!(a == b)) A B := .not (.eqS hf ht)
theorem Kwrap.quo {a b : Int} {K : AVal → Prop} (h0 : 0 ≤ a) (h1 : a < 9223372036854775808) (h2 : 0 < b) (hk : K (.int .i64 (a / b))) : Kwrap (a.tdiv b) K := by
  rw [Int.tdiv_eq_ediv_of_nonneg h0]
  refine .fit ⟨?_, ?_⟩ hk
  · have := Int.ediv_nonneg h0 (Int.le_of_lt h2); omega
  · have := Int.ediv_le_self b h0; omega
theorem Kopt.of {α : Type} {x : Option α} {v : α} {K : α → Prop} (hx : x = some v) (hk : K v) : Kopt x K := by subst hx; exact hk
theorem Kv1.of {v : AVal} {K : AVal → Prop} (hk : K v) : Kv1 v K := Kv1_iff.2 hk
theorem Kv2.of {v : AVal} {K : AVal → Prop} (hk : K v) : Kv2 v K := Kv2_iff.2 hk
theorem Kv3.of {v : AVal} {K : AVal → Prop} (hk : K v) : Kv3 v K := Kv3_iff.2 hk
theorem Kl1.of {v : List AVal} {K : List AVal → Prop} (hk : K v) : Kl1 v K := Kl1_iff.2 hk
theorem Kl2.of {v : List AVal} {K : List AVal → Prop} (hk : K v) : Kl2 v K := Kl2_iff.2 hk

theorem VCall.mono {f : FuncId} {args : List AVal} {K K' : AVal → Heap → LS → Prop} (hc : VCall C base f args h L K) (hk : ∀ v h' L', K v h' L' → K' v h' L') : VCall C base f args h L K' := by
  obtain ⟨hb, v, h', L', hq, k⟩ := hc
  exact ⟨hb, v, h', L', hq, hk v h' L' k⟩

/-! ### a range over a function -/
def putsF (n : Nat) : Env → List Nat → List AVal → Option Env
  | e, [], [] => some e
  | e, p :: ps, v :: vs => bif Nat.blt p n then putsF n (put e p v) ps vs else none
  | _, _, _ => none
theorem putsF_ok {n : Nat} : ∀ {e e1 : Env} {env : List AVal} {ps : List Nat} {vs : List AVal}, AgreeF env e → putsF n e ps vs = some e1 → ∃ env1, putPs n env ps vs = some env1 ∧ AgreeF env1 e1
  | e, e1, env, [], [], ag, h => by simp [putsF] at h; subst h; exact ⟨env, rfl, ag⟩
  | e, e1, env, p :: ps, v :: vs, ag, h => by
    simp only [putsF] at h
    cases hb : Nat.blt p n with
    | false => rw [hb] at h; cases h
    | true =>
      rw [hb] at h
      obtain ⟨env1, h1, h2⟩ := putsF_ok (ag.put p v) h
      exact ⟨env1, by simp only [putPs]; rw [if_pos (show p < n from Nat.le_of_ble_eq_true hb)]; exact h1, h2⟩
  | e, e1, env, [], _ :: _, ag, h => by simp [putsF] at h
  | e, e1, env, _ :: _, [], ag, h => by simp [putsF] at h
/-- what a round leaves -/
def roundQ (r : LRec) (K : AVal → Heap → LS → Prop) : Post := fun x e h L => match x with
  | .normal => K (.bool true) h ({ r with jump := none } :: L)
  | .exit i => K (.bool false) h ({ r with jump := some (.exit i) } :: L)
  | .ret => K (.bool false) h ({ r with jump := some .ret } :: L)
def assignQ (C : Cfg) (base : Nat) (r : LRec) (K : AVal → Heap → LS → Prop) : Post := fun x e h L => match x with
  | .normal => W C base r.n true r.body (roundQ r K) e h L
  | _ => False
theorem VYld.round {r : LRec} {L0 : LS} {y : Nat} {args : List AVal} {e0 e1 : Env} {K : AVal → Heap → LS → Prop} (hl : r.loc = y) (hj : r.jump = none) (he : ∀ i, getX r.env i = e0 i) (hp : putsF r.n e0 r.ps args = some e1)
    (hw : W C base r.n true r.assign (assignQ C base r K) e1 h L0) : VYld C base y args h (r :: L0) K := by
  obtain ⟨env1, hp1, ag1⟩ := putsF_ok (fun i => he i) hp
  obtain ⟨x, env2, h2, L2, e2, ag2, hq, N0, hN⟩ := W_ok ag1 hw
  cases x with
  | exit i => exact hq.elim
  | ret => exact hq.elim
  | normal =>
    obtain ⟨x, env3, h3, L3, e3, ag3, hq3, N1, hN1⟩ := W_ok ag2 hq
    have hj' : r.loc = y ∧ r.jump.isNone = true := ⟨hl, by rw [hj]; rfl⟩
    cases x with
    | normal =>
      refine ⟨_, _, _, ⟨max N0 N1 + 1, fun M hM => ?_⟩, hq3⟩
      obtain ⟨M', rfl⟩ : ∃ M', M = M' + 1 := ⟨M - 1, by omega⟩
      simp only [doCallL, runL, if_pos hj', hp1, hN M' M' (by omega) (by omega), hN1 M' M' (by omega) (by omega)]
    | exit i =>
      refine ⟨_, _, _, ⟨max N0 N1 + 1, fun M hM => ?_⟩, hq3⟩
      obtain ⟨M', rfl⟩ : ∃ M', M = M' + 1 := ⟨M - 1, by omega⟩
      simp only [doCallL, runL, if_pos hj', hp1, hN M' M' (by omega) (by omega), hN1 M' M' (by omega) (by omega)]
    | ret =>
      refine ⟨_, _, _, ⟨max N0 N1 + 1, fun M hM => ?_⟩, hq3⟩
      obtain ⟨M', rfl⟩ : ∃ M', M = M' + 1 := ⟨M - 1, by omega⟩
      simp only [doCallL, runL, if_pos hj', hp1, hN M' M' (by omega) (by omega), hN1 M' M' (by omega) (by omega)]

/-- a range over a function, ended by its function, or left by a return -/
theorem VRange.two {f : FuncId} {first captured : List AVal} {ps : List Nat} {assign body : Code} {Q : Post} {e : Env} (A B : Heap → Prop)
    (hc : ∀ env, AgreeF env e → VCall C base f (first ++ [.yld h.length] ++ captured) (h ++ [none]) (⟨h.length, n, env, ps, assign, body, none⟩ :: L) fun _ h' L' =>
      (L' = ⟨h.length, n, env, ps, assign, body, none⟩ :: L ∧ A h') ∨ (L' = ⟨h.length, n, env, ps, assign, body, some .ret⟩ :: L ∧ B h'))
    (ha : ∀ h', A h' → Q .normal e h' L) (hb : ∀ h', B h' → Q .ret e h' L) : VRange C base n f first captured ps assign body Q e h L := by
  refine .mk fun env ag => (hc env ag).mono fun v h' L' hk => ?_
  rcases hk with ⟨rfl, hA⟩ | ⟨rfl, hB⟩
  · exact ha h' hA
  · exact hb h' hB

/-! ### append, copy, clear -/
theorem VB.append {ts : List TypeId} {t et : TypeId} {s x : AVal} {rest : List AVal} {size nn : Nat} {z new : List AVal} {K : AVal → Heap → Prop}
    (he : elemT P t = some et) (hs : sizeOf P et = some size) (hz : zeroOf P et = some z) (hzl : z.length = size) (hi : intArg P ts = some false) (hx : lenA x = some nn) (hn : srcCells h size nn x = some new)
    (hk : ∃ v h', appendA P h base slot et s nn new = some (v, h') ∧ K v h') : VB P h base slot .append (t :: ts) (s :: x :: rest) K := by
  obtain ⟨v, h', h1, h2⟩ := hk
  refine ⟨v, h', ?_, h2⟩
  simp only [builtinA, he, hs, hz, hzl, gd, decide_true, if_true, hi, hx, hn, Option.bind_eq_bind, Option.bind_some, Bool.false_eq_true, if_false, h1]

/-- nothing is appended -/
theorem appendA_zero {et : TypeId} {s : AVal} {size b : Nat} (hs : sizeOf P et = some size) (hb : bytesOf P et = some b) (hnil : (∃ l o n c, s = .own l o n c) ∨ ∃ k xs, s = .lst k xs) : appendA P h base slot et s 0 [] = some (s, h) := by
  rcases hnil with ⟨l, o, n, c, rfl⟩ | ⟨k, xs, rfl⟩ <;> simp [appendA, hs, hb, gd]

/-- there is room -/
theorem appendA_fit {et : TypeId} {l off len c nn size b : Nat} {new : List AVal} {blk : Blk} (hs : sizeOf P et = some size) (hb : bytesOf P et = some b) (h0 : nn ≠ 0) (h1 : size ≠ 0) (hl : new.length = nn * size) (ho : new.all AVal.one = true)
    (hg : hget h l = some blk) (hc : len + nn ≤ c) (hbase : base ≤ l) (hle : off + len * size + new.length ≤ blk.cells.length) :
    appendA P h base slot et (.own l off len (some c)) nn new = some (.own l off (len + nn) (some c), h.set l (some { blk with cells := splice blk.cells (off + len * size) new })) := by
  simp only [appendA, hs, hb, gd, hl, decide_true, if_true, ho, Option.bind_eq_bind, Option.bind_some, if_neg h0, hg, if_pos hc, if_neg h1, write]
  rw [if_pos ⟨hbase, by omega, trivial⟩]
  simp

/-- there is none: a new row -/
theorem appendA_grow {et : TypeId} {l off len c nn size b : Nat} {new : List AVal} {blk : Blk} (hs : sizeOf P et = some size) (hb : bytesOf P et = some b) (h0 : nn ≠ 0) (hl : new.length = nn * size) (ho : new.all AVal.one = true)
    (hg : hget h l = some blk) (hc : c < len + nn) (hle : off + len * size ≤ blk.cells.length) (hbig : (2 * (len + nn) + 1024) * b ≤ 140737488355328 ∧ len + nn ≤ 4611686018427387904) (hone : ((blk.cells.drop off).take (len * size)).all AVal.one = true) :
    appendA P h base none et (.own l off len (some c)) nn new = some (.own h.length 0 (len + nn) none, h ++ [some ⟨(blk.cells.drop off).take (len * size) ++ new, et, true⟩]) := by
  simp only [appendA, hs, hb, gd, hl, decide_true, if_true, ho, Option.bind_eq_bind, Option.bind_some, if_neg h0, hg, if_neg (show ¬ len + nn ≤ c by omega)]
  rw [if_pos ⟨hle, hbig⟩]
  simp only [halloc, List.all_append, hone, ho, Bool.and_self, if_true, Option.bind_some]

theorem appendA_more {et : TypeId} {l len nn size b : Nat} {new : List AVal} {blk : Blk} (hs : sizeOf P et = some size) (hb : bytesOf P et = some b) (h0 : nn ≠ 0) (h1 : size ≠ 0) (hl : new.length = nn * size) (ho : new.all AVal.one = true)
    (hg : hget h l = some blk) (hbase : base ≤ l) (hle : len * size = blk.cells.length) (het : blk.elem = et) (hbig : (2 * (len + nn) + 1024) * b ≤ 140737488355328 ∧ len + nn ≤ 4611686018427387904) (hone : blk.cells.all AVal.one = true) :
    appendA P h base none et (.own l 0 len none) nn new = some (.own h.length 0 (len + nn) none, h.set l none ++ [some ⟨blk.cells ++ new, et, true⟩]) := by
  simp only [appendA, hs, hb, gd, hl, decide_true, if_true, ho, Option.bind_eq_bind, Option.bind_some, if_neg h0, hg]
  rw [if_pos ⟨trivial, hle, hbase, het, hbig.1, hbig.2, h1⟩]
  simp only [halloc, List.all_append, hone, ho, Bool.and_self, if_true, Option.bind_some, List.length_set]

theorem appendA_nil {et : TypeId} {nn size b : Nat} {new : List AVal} (hs : sizeOf P et = some size) (hb : bytesOf P et = some b) (h0 : nn ≠ 0) (hl : new.length = nn * size) (ho : new.all AVal.one = true) (hbig : (2 * nn + 1024) * b ≤ 140737488355328 ∧ nn ≤ 4611686018427387904) :
    appendA P h base none et (.lst true []) nn new = some (.own h.length 0 nn none, h ++ [some ⟨new, et, true⟩]) := by
  simp only [appendA, hs, hb, gd, hl, decide_true, if_true, ho, Option.bind_eq_bind, Option.bind_some, if_neg h0]
  rw [if_pos ⟨trivial, rfl, hbig.1, hbig.2⟩]
  simp only [halloc, ho, if_true, Option.bind_some]

theorem appendV_nil {et : TypeId} {nn size b : Nat} {new : List AVal} {K : AVal → Heap → Prop} (hs : sizeOf P et = some size) (hb : bytesOf P et = some b) (h0 : nn ≠ 0) (hl : new.length = nn * size) (ho : new.all AVal.one = true) (hbig : (2 * nn + 1024) * b ≤ 140737488355328 ∧ nn ≤ 4611686018427387904)
    (hk : VAlloc h slot ⟨new, et, true⟩ fun l h' => K (.own l 0 nn none) h') : ∃ v h', appendA P h base slot et (.lst true []) nn new = some (v, h') ∧ K v h' := by
  obtain ⟨l, h', ha, hk⟩ := hk
  refine ⟨_, _, ?_, hk⟩
  simp only [appendA, hs, hb, gd, hl, decide_true, if_true, ho, Option.bind_eq_bind, Option.bind_some, if_neg h0]
  rw [if_pos ⟨trivial, rfl, hbig.1, hbig.2⟩]
  simp only [ha, Option.bind_some]
theorem appendV_more {et : TypeId} {l len nn size b : Nat} {new : List AVal} {blk : Blk} {K : AVal → Heap → Prop} (hs : sizeOf P et = some size) (hb : bytesOf P et = some b) (h0 : nn ≠ 0) (h1 : size ≠ 0) (hl : new.length = nn * size) (ho : new.all AVal.one = true)
    (hg : hget h l = some blk) (hbase : base ≤ l) (hle : len * size = blk.cells.length) (het : blk.elem = et) (hbig : (2 * (len + nn) + 1024) * b ≤ 140737488355328 ∧ len + nn ≤ 4611686018427387904)
    (hk : VAlloc (h.set l none) slot ⟨blk.cells ++ new, et, true⟩ fun l' h' => K (.own l' 0 (len + nn) none) h') : ∃ v h', appendA P h base slot et (.own l 0 len none) nn new = some (v, h') ∧ K v h' := by
  obtain ⟨l', h', ha, hk⟩ := hk
  refine ⟨_, _, ?_, hk⟩
  simp only [appendA, hs, hb, gd, hl, decide_true, if_true, ho, Option.bind_eq_bind, Option.bind_some, if_neg h0, hg]
  rw [if_pos ⟨trivial, hle, hbase, het, hbig.1, hbig.2, h1⟩]
  simp only [ha, Option.bind_some]
theorem appendV_grow {et : TypeId} {l off len c nn size b : Nat} {new : List AVal} {blk : Blk} {K : AVal → Heap → Prop} (hs : sizeOf P et = some size) (hb : bytesOf P et = some b) (h0 : nn ≠ 0) (hl : new.length = nn * size) (ho : new.all AVal.one = true)
    (hg : hget h l = some blk) (hc : c < len + nn) (hle : off + len * size ≤ blk.cells.length) (hbig : (2 * (len + nn) + 1024) * b ≤ 140737488355328 ∧ len + nn ≤ 4611686018427387904)
    (hk : VAlloc h slot ⟨(blk.cells.drop off).take (len * size) ++ new, et, true⟩ fun l' h' => K (.own l' 0 (len + nn) none) h') : ∃ v h', appendA P h base slot et (.own l off len (some c)) nn new = some (v, h') ∧ K v h' := by
  obtain ⟨l', h', ha, hk⟩ := hk
  refine ⟨_, _, ?_, hk⟩
  simp only [appendA, hs, hb, gd, hl, decide_true, if_true, ho, Option.bind_eq_bind, Option.bind_some, if_neg h0, hg, if_neg (show ¬ len + nn ≤ c by omega)]
  rw [if_pos ⟨hle, hbig⟩]
  simp only [ha, Option.bind_some]
theorem hget_out {l : Nat} (hl : h.length ≤ l) : hget h l = none := by
  rw [hget_eq, List.getElem?_eq_none hl]; rfl
theorem at_none {s : Nat} (hs : s < h.length) (hg : hget h s = none) : h[s]? = some none := by
  rw [hget_eq] at hg
  rw [List.getElem?_eq_getElem hs] at hg ⊢
  simpa using hg
theorem VB.copy {t et : TypeId} {ts : List TypeId} {l off len size m : Nat} {cap : Option Nat} {s : AVal} {rest new : List AVal} {b b' : Blk} {K : AVal → Heap → Prop} (he : elemT P t = some et) (hs : sizeOf P et = some size) (hn : lenA s = some m) (hsrc : srcCells h size (min m len) s = some new)
    (hb : hget h l = some b) (hbase : base ≤ l) (hle : off + new.length ≤ b.cells.length) (hone : new.all AVal.one = true) (hb' : { b with cells := splice b.cells off new } = b') (hk : K (.int .i64 ((min m len : Nat) : Int)) (h.set l (some b'))) :
    VB P h base slot .copy (t :: ts) (.own l off len cap :: s :: rest) K := by
  subst hb'
  refine ⟨_, _, ?_, hk⟩
  simp only [builtinA, he, hs, hn, dstLen, hsrc, write, hb, Option.bind_eq_bind, Option.bind_some]
  rw [if_pos ⟨hbase, hle, hone⟩]
  rfl
theorem ofBytes_one (bs : List UInt8) : (bs.map ofByte).all AVal.one = true := by
  simp [List.all_eq_true, ofByte, AVal.one]

/-! ### places -/
theorem put_eq1 {a : AVal} {i : Nat} (h1 : e i = a) : e = put e i a := by
  funext j
  unfold put
  by_cases h : j = i
  · subst h; simp [h1]
  · rw [beq_no h]; rfl
theorem put_eq2 {a b : AVal} {i j : Nat} (h1 : e i = a) (h2 : e j = b) : e = put (put e i a) j b := by rw [← put_eq1 h1]; exact put_eq1 h2
theorem put_eq3 {a b c : AVal} {i j k : Nat} (h1 : e i = a) (h2 : e j = b) (h3 : e k = c) : e = put (put (put e i a) j b) k c := by rw [← put_eq1 h1]; exact put_eq2 h2 h3
theorem put_eq4 {a b c d : AVal} {i j k l : Nat} (h1 : e i = a) (h2 : e j = b) (h3 : e k = c) (h4 : e l = d) : e = put (put (put (put e i a) j b) k c) l d := by rw [← put_eq1 h1]; exact put_eq3 h2 h3 h4
theorem put_eq5 {a b c d f : AVal} {i j k l m : Nat} (h1 : e i = a) (h2 : e j = b) (h3 : e k = c) (h4 : e l = d) (h5 : e m = f) : e = put (put (put (put (put e i a) j b) k c) l d) m f := by rw [← put_eq1 h1]; exact put_eq4 h2 h3 h4 h5
theorem put_eq6 {a b c d f g : AVal} {i j k l m o : Nat} (h1 : e i = a) (h2 : e j = b) (h3 : e k = c) (h4 : e l = d) (h5 : e m = f) (h6 : e o = g) : e = put (put (put (put (put (put e i a) j b) k c) l d) m f) o g := by rw [← put_eq1 h1]; exact put_eq5 h2 h3 h4 h5 h6
theorem put_eq7 {a b c d f g x : AVal} {i j k l m o p : Nat} (h1 : e i = a) (h2 : e j = b) (h3 : e k = c) (h4 : e l = d) (h5 : e m = f) (h6 : e o = g) (h7 : e p = x) : e = put (put (put (put (put (put (put e i a) j b) k c) l d) m f) o g) p x := by rw [← put_eq1 h1]; exact put_eq6 h2 h3 h4 h5 h6 h7
theorem put_eq8 {a b c d f g x y : AVal} {i j k l m o p q : Nat} (h1 : e i = a) (h2 : e j = b) (h3 : e k = c) (h4 : e l = d) (h5 : e m = f) (h6 : e o = g) (h7 : e p = x) (h8 : e q = y) : e = put (put (put (put (put (put (put (put e i a) j b) k c) l d) m f) o g) p x) q y := by rw [← put_eq1 h1]; exact put_eq7 h2 h3 h4 h5 h6 h7 h8

theorem loadAV_agg {t : TypeId} {cells vs : List AVal} {m : Nat} (h1 : isAggT P t = some true) (h2 : sizeOf P t = some m) (h3 : cells.take m = vs) (h4 : vs.length = m) : loadAV P t cells = some (.agg vs) := by
  simp only [loadAV, h1, h2]
  rw [if_pos, h3]
  rw [← h4, ← h3]
  simp only [List.length_take]
  omega
theorem loadAV_one {t : TypeId} {cells : List AVal} {v : AVal} {r : List AVal} (h1 : isAggT P t = some false) (h2 : cells = v :: r) : loadAV P t cells = some v := by
  simp only [loadAV, h1, h2]

/-! ### heaps -/
theorem hget_rep (h : Heap) (n l : Nat) : hget (h ++ List.replicate n none) l = hget h l := by
  simp only [hget_eq]
  by_cases hl : l < h.length
  · rw [List.getElem?_append_left hl]
  · rw [List.getElem?_append_right (by omega), List.getElem?_eq_none (show h.length ≤ l by omega), List.getElem?_replicate]
    split <;> rfl
theorem set_new (h : Heap) (a b : Option Blk) : (h ++ [a]).set h.length b = h ++ [b] := by
  rw [List.set_append_right _ _ (Nat.le_refl _)]; simp
theorem rep_at (h : Heap) (n i : Nat) (hi : i < n) : (h ++ List.replicate n none)[h.length + i]? = some none := by
  rw [List.getElem?_append_right (by omega), show h.length + i - h.length = i by omega, List.getElem?_replicate, if_pos hi]
theorem hget_new (h : Heap) (b : Option Blk) : hget (h ++ [b]) h.length = b := by rw [hget_append]; simp
theorem hget_old {h : Heap} {b : Option Blk} {l : Nat} (hl : l < h.length) : hget (h ++ [b]) l = hget h l := by rw [hget_append, if_neg (by omega)]
theorem hget_put {h : Heap} {b : Option Blk} {l : Nat} (hl : l < h.length) : hget (h.set l b) l = b := by rw [hget_set _ _ _ _ hl]; simp
theorem hget_other {h : Heap} {b : Option Blk} {l k : Nat} (hk : k ≠ l) : hget (h.set l b) k = hget h k := by
  by_cases hl : l < h.length
  · rw [hget_set _ _ _ _ hl, if_neg hk]
  · rw [List.set_eq_of_length_le (by omega)]
end Go.Abs
