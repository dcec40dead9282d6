/-
  The laws' own small functions, over both disks.
-/
import Derived.Test.YtcdjkpppfghkpaaDiskU
set_option linter.unusedVariables false
set_option linter.unusedSimpArgs false
namespace Go.Proofs.Ytcdjkpppfghkpaa
open Go Go.Abs Go.Proofs

variable {base : Nat} {h : Heap} {L : LS} {d : DD} {r : RD} {K : AVal → Heap → LS → Prop}

structure ActD where
  doo : Int
  n : Int
  m : Int
  nil : Bool
  b : List UInt8
def bytesV (nil : Bool) (b : List UInt8) : AVal := .lst nil (b.map fun b => [ofByte b])
def ActD.cells (a : ActD) : List AVal := [.int .i64 a.doo, .int .i64 a.n, .int .i64 a.m, bytesV a.nil a.b]
structure ActRd (a : ActD) : Prop where
  nil : a.nil = true → a.b = []
  n : a.n < 9223372036854775808
structure ActOK (a : ActD) : Prop where
  nil : a.nil = true → a.b = []
  big : (2 * (0 + a.b.length) + 1024) * 1 ≤ 140737488355328 ∧ 0 + a.b.length ≤ 4611686018427387904
  n : a.n < 9223372036854775808

theorem VB.clear_nil {P : Program} {t et : TypeId} {ts : List TypeId} {rest : List AVal} {z : List AVal} {slot : Option Nat} {K : AVal → Heap → Prop} (he : elemT P t = some et) (hz : zeroOf P et = some z) (hs : Go.Abs.sizeOf P et = some z.length) (hk : K (.tup []) h) : VB P h base slot .clear (t :: ts) (.lst true [] :: rest) K := by
  refine ⟨_, _, ?_, hk⟩
  simp only [builtinA, he, hz, hs, gd, Option.bind_eq_bind, Option.bind_some]
  simp
theorem VB.clear_own {P : Program} {t et : TypeId} {ts : List TypeId} {rest : List AVal} {z : List AVal} {slot : Option Nat} {l off len : Nat} {cap : Option Nat} {b : Blk} {K : AVal → Heap → Prop} (he : elemT P t = some et) (hz : zeroOf P et = some z) (hs : Go.Abs.sizeOf P et = some z.length)
    (h0 : len ≠ 0) (hb : hget h l = some b) (hbase : base ≤ l) (hle : off + (zeros z len).length ≤ b.cells.length) (hone : (zeros z len).all AVal.one = true) (hk : K (.tup []) (h.set l (some { b with cells := splice b.cells off (zeros z len) }))) : VB P h base slot .clear (t :: ts) (.own l off len cap :: rest) K := by
  refine ⟨_, _, ?_, hk⟩
  simp only [builtinA, he, hz, hs, gd, Option.bind_eq_bind, Option.bind_some, decide_true, if_true, if_neg h0, write, hb]
  rw [if_pos ⟨hbase, hle, hone⟩]
  rfl

theorem VB.clear_zero {P : Program} {t et : TypeId} {ts : List TypeId} {rest : List AVal} {z : List AVal} {slot : Option Nat} {l off : Nat} {cap : Option Nat} {K : AVal → Heap → Prop} (he : elemT P t = some et) (hz : zeroOf P et = some z) (hs : Go.Abs.sizeOf P et = some z.length) (hk : K (.tup []) h) : VB P h base slot .clear (t :: ts) (.own l off 0 cap :: rest) K := by
  refine ⟨_, _, ?_, hk⟩
  simp only [builtinA, he, hz, hs, gd, Option.bind_eq_bind, Option.bind_some]
  simp

theorem Bytes.none {bs : List UInt8} {l : Nat} {cap : Option Nat} {b : Blk} (hb : bs = []) (hg : hget h l = some b) : Bytes h bs (.own l 0 0 cap) := by
  subst hb
  exact .own (bs := []) hg (by simp) rfl

def AD.did (a : AD) (x : ActD) : (List UInt8 × Int) × AD :=
  if x.doo = 0 then (if 0 ≤ x.n ∧ x.n < a.n then if a.gone then ([], 11) else (a.read x.n, 0) else ([], 1), a) else
  if x.doo = 1 then (([], (a.write x.n x.b).1), (a.write x.n x.b).2) else
  if x.doo = 2 then (([], a.sync.1), a.sync.2) else
  if x.doo = 3 then (([], 0), { a with left := max x.n (-1) }) else
  if x.doo = 4 then (([], 0), { a with below := max x.n (-1) }) else
  if x.doo = 5 then (([], 0), a.crash x.n x.m) else (([], 0), a)

theorem Frame.grow {h' : Heap} (h1 : h.length ≤ h'.length) (h2 : ∀ x, x < h.length → hget h' x = hget h x) : Frame h d h' d := ⟨h1, fun x hx _ => h2 x hx, fun x hx => .inl hx⟩
theorem DAt.grow {h' : Heap} (hd : DAt h d) (h2 : ∀ x, x < h.length → hget h' x = hget h x) : DAt h' d := hd.frame fun x hx => h2 x (hd.lt hx)
theorem RFrame.grow {h' : Heap} (h1 : h.length ≤ h'.length) (h2 : ∀ x, x < h.length → hget h' x = hget h x) : RFrame h r h' r := ⟨h1, fun x hx _ => h2 x hx, fun x hx => .inl hx⟩
theorem RAt.grow {h' : Heap} (hd : RAt h r) (h2 : ∀ x, x < h.length → hget h' x = hget h x) : RAt h' r := hd.frame fun x hx => h2 x (hd.lt hx)

theorem read_len (hd : DAt h d) {i : Int} (hi : 0 ≤ i ∧ i < d.n) : (d.abs.read i).length = 64 := by
  unfold AD.read
  cases hf : d.abs.q.reverse.find? fun x => x.1 == i with
  | some x =>
    have := List.mem_of_find?_eq_some hf
    simp [DD.abs] at this
    obtain ⟨y, hy, rfl⟩ := this
    exact (hd.el y hy).1
  | none =>
    have := hd.sz
    simp [DD.abs]; omega

theorem did_ok (hd : DAt h d) {x : ActD} (hx : ActOK x) (hq : d.q.length < 1048576) (hk : ∀ h' d', DAt h' d' → d'.l = d.l → d'.abs = (d.abs.did x).2 → Frame h d h' d' → K (.tup [.str (d.abs.did x).1.1, .int .i64 (d.abs.did x).1.2]) h' L) : VCall CD 0 11 [.ptr (some (d.l, 0)), .agg x.cells] h L K := by
  refine VCall.full (fn := Try.f11) Try.func11 rfl rfl ?_
  have hl := hd.lt (.inl rfl)
  have hbx : Bytes h x.b (bytesV x.nil x.b) := .lst hx.nil
  (conv => whnf)
  refine VAlloc.new rfl ?_
  have f1 : ∀ y, y < h.length → hget (h ++ [some ⟨[.int .i64 x.doo, .int .i64 x.n, .int .i64 x.m, .lst x.nil (x.b.map fun b => [ofByte b])], 36, false⟩]) y = hget h y := fun y hy => hget_old hy
  have d1 : DAt (h ++ [some ⟨[.int .i64 x.doo, .int .i64 x.n, .int .i64 x.m, .lst x.nil (x.b.map fun b => [ofByte b])], 36, false⟩]) d := hd.grow f1
  have fr1 : Frame h d (h ++ [some ⟨[.int .i64 x.doo, .int .i64 x.n, .int .i64 x.m, .lst x.nil (x.b.map fun b => [ofByte b])], 36, false⟩]) d := .grow (by simp) f1
  have row := hget_new h (some (⟨[.int .i64 x.doo, .int .i64 x.n, .int .i64 x.m, .lst x.nil (x.b.map fun b => [ofByte b])], 36, false⟩ : Blk))
  (conv => whnf)
  refine VRow.of row ?_
  (conv => whnf)
  refine Kcond.eqI (fun h0 => ?_) (fun h0 => ?_)
  · have e : d.abs.did x = (if 0 ≤ x.n ∧ x.n < d.n then if d.gone then ([], 11) else (d.abs.read x.n, 0) else ([], 1), d.abs) := if_pos h0
    rw [e] at hk
    (conv => whnf)
    refine VRow.of row ?_
    (conv => whnf)
    refine read_ok d1 (fun h' r g1 g2 g3 g4 g5 g6 => ?_) (fun g1 h' g5 g6 => ?_) (fun g1 g2 h' g5 g6 => ?_)
    · rw [if_pos g1, g2] at hk
      simp only [Bool.false_eq_true, if_false] at hk
      (conv => whnf)
      refine VRow.of g4 ?_
      (conv => whnf)
      have hl64 := read_len hd g1
      have c0 : (bRow (d.abs.read x.n) true).cells = (d.abs.read x.n).map ofByte := rfl
      refine VIf.of (by rw [c0]; simp [hl64]) ?_
      (conv => whnf)
      refine VBytes.of (bs := d.abs.read x.n) (by rw [c0, List.drop_zero, ← hl64]; exact take_map_len _) ?_
      (conv => whnf)
      have hr := hget_lt g4
      refine VB.clear_own (et := 5) (z := [.int .u8 0]) rfl rfl rfl (by omega) g4 (Nat.zero_le _) (by rw [c0]; simp [hl64, zeros]) rfl ?_
      (conv => whnf)
      simp only [List.length_append, List.length_cons, List.length_nil] at g3 g5
      have gs : ∀ y, y < h.length → hget (h'.set r (some { (bRow (d.abs.read x.n) true) with cells := splice (bRow (d.abs.read x.n) true).cells 0 (zeros [.int .u8 0] 64) })) y = hget h y := fun y hy => by rw [hget_other (by omega), g6 y (by simp; omega), f1 y hy]
      exact hk _ _ (hd.grow gs) rfl rfl (.grow (by simp; omega) gs)
    · rw [if_neg g1] at hk
      (conv => whnf)
      refine VIf.of (by simp) ?_
      (conv => whnf)
      refine VBytes.of (bs := []) rfl ?_
      (conv => whnf)
      refine VB.clear_nil (P := CD.P) (et := 5) (z := [.int .u8 0]) rfl rfl rfl ?_
      (conv => whnf)
      simp only [List.length_append, List.length_cons, List.length_nil] at g5
      have gs : ∀ y, y < h.length → hget h' y = hget h y := fun y hy => by rw [g6 y (by simp; omega), f1 y hy]
      exact hk _ _ (hd.grow gs) rfl rfl (.grow (by omega) gs)
    · rw [if_pos g1, g2] at hk
      simp only [if_true] at hk
      (conv => whnf)
      refine VIf.of (by simp) ?_
      (conv => whnf)
      refine VBytes.of (bs := []) rfl ?_
      (conv => whnf)
      refine VB.clear_nil (P := CD.P) (et := 5) (z := [.int .u8 0]) rfl rfl rfl ?_
      (conv => whnf)
      simp only [List.length_append, List.length_cons, List.length_nil] at g5
      have gs : ∀ y, y < h.length → hget h' y = hget h y := fun y hy => by rw [g6 y (by simp; omega), f1 y hy]
      exact hk _ _ (hd.grow gs) rfl rfl (.grow (by omega) gs)
  (conv => whnf)
  refine Kcond.eqI (fun h1 => ?_) (fun h1 => ?_)
  · have e : d.abs.did x = (([], (d.abs.write x.n x.b).1), (d.abs.write x.n x.b).2) := by unfold AD.did; rw [if_neg h0, if_pos h1]
    rw [e] at hk
    (conv => whnf)
    refine VAlloc.new rfl ?_
    (conv => whnf)
    have f2 : ∀ y, y < h.length + 1 → hget (h ++ [some (⟨[.int .i64 x.doo, .int .i64 x.n, .int .i64 x.m, .lst x.nil (x.b.map fun b => [ofByte b])], 36, false⟩ : Blk)] ++ [some (⟨[], 5, false⟩ : Blk)]) y = hget (h ++ [some (⟨[.int .i64 x.doo, .int .i64 x.n, .int .i64 x.m, .lst x.nil (x.b.map fun b => [ofByte b])], 36, false⟩ : Blk)]) y := fun y hy => hget_old (by simp; omega)
    refine VRow.of ((f2 _ (by omega)).trans row) ?_
    (conv => whnf)
    have le : (h ++ [some (⟨[.int .i64 x.doo, .int .i64 x.n, .int .i64 x.m, .lst x.nil (x.b.map fun b => [ofByte b])], 36, false⟩ : Blk)]).length = h.length + 1 := by simp
    by_cases hne : x.b = []
    · refine VB.append (et := 5) (size := 1) (nn := 0) (z := [.int .u8 0]) (new := []) rfl rfl rfl rfl rfl (by rw [hne]; rfl) (by rw [hne]; rfl) ⟨_, _, appendA_zero rfl rfl (.inl ⟨_, _, _, _, rfl⟩), ?_⟩
      (conv => whnf)
      refine VRow.of ((f2 _ (by omega)).trans row) ?_
      (conv => whnf)
      have d2 : DAt (h ++ [some (⟨[.int .i64 x.doo, .int .i64 x.n, .int .i64 x.m, .lst x.nil (x.b.map fun b => [ofByte b])], 36, false⟩ : Blk)] ++ [some (⟨[], 5, false⟩ : Blk)]) d := hd.grow fun y hy => by rw [f2 y (by omega), f1 y hy]
      have fr2 : Frame h d (h ++ [some (⟨[.int .i64 x.doo, .int .i64 x.n, .int .i64 x.m, .lst x.nil (x.b.map fun b => [ofByte b])], 36, false⟩ : Blk)] ++ [some (⟨[], 5, false⟩ : Blk)]) d := .grow (by simp <;> omega) fun y hy => by rw [f2 y (by omega), f1 y hy]
      refine write_ok d2 (bs := x.b) (Bytes.none hne (hget_new _ _)) (fun l off n c e => by
        simp at e; intro ho; have := hd.lt ho; omega) hq fun h' d' k1 k2 k3 k4 => ?_
      (conv => whnf)
      refine VB.clear_zero (P := CD.P) (et := 5) (z := [.int .u8 0]) rfl rfl rfl ?_
      (conv => whnf)
      exact hk h' d' k1 k2 k3 (fr2.trans k4)
    · have hbx2 : Bytes (h ++ [some (⟨[.int .i64 x.doo, .int .i64 x.n, .int .i64 x.m, .lst x.nil (x.b.map fun b => [ofByte b])], 36, false⟩ : Blk)] ++ [some (⟨[], 5, false⟩ : Blk)]) x.b (bytesV x.nil x.b) := .lst hx.nil
      have hlen : x.b.length ≠ 0 := fun h0 => hne (List.length_eq_zero_iff.1 h0)
      refine VB.append (et := 5) (size := 1) (nn := x.b.length) (z := [.int .u8 0]) (new := x.b.map ofByte) rfl rfl rfl rfl rfl hbx2.len hbx2.src (appendV_grow (b := 1) (size := 1) (blk := ⟨[], 5, false⟩) rfl rfl hlen (by simp) (ofBytes_one _) (hget_new _ _) (by omega) (by simp) hx.big ?_)
      refine VAlloc.new (ofBytes_one _) ?_
      (conv => whnf)
      obtain ⟨H, hH⟩ : ∃ H, H = h ++ [some (⟨[.int .i64 x.doo, .int .i64 x.n, .int .i64 x.m, .lst x.nil (x.b.map fun b => [ofByte b])], 36, false⟩ : Blk)] ++ [some (⟨[], 5, false⟩ : Blk)] ++ [some (⟨List.take (0 * 1) (List.drop 0 ({ cells := [], elem := 5, ext := false } : Blk).cells) ++ x.b.map ofByte, 5, true⟩ : Blk)] := ⟨_, rfl⟩
      have f3 : ∀ y, y < h.length + 1 → hget H y = hget (h ++ [some (⟨[.int .i64 x.doo, .int .i64 x.n, .int .i64 x.m, .lst x.nil (x.b.map fun b => [ofByte b])], 36, false⟩ : Blk)]) y := fun y hy => by rw [hH, hget_old (by simp; omega)]; exact f2 y hy
      have l2 : (h ++ [some (⟨[.int .i64 x.doo, .int .i64 x.n, .int .i64 x.m, .lst x.nil (x.b.map fun b => [ofByte b])], 36, false⟩ : Blk)] ++ [some (⟨[], 5, false⟩ : Blk)]).length = h.length + 2 := by simp
      have g3 : hget H (h.length + 2) = some (bRow x.b true) := by rw [hH, ← l2, hget_new]; simp [bRow]
      have Hl : H.length = h.length + 3 := by rw [hH]; simp
      rw [← hH]
      refine VRow.of ((f3 _ (by omega)).trans row) ?_
      (conv => whnf)
      have d2 : DAt H d := hd.grow fun y hy => by rw [f3 y (by omega), f1 y hy]
      have fr2 : Frame h d H d := .grow (by omega) fun y hy => by rw [f3 y (by omega), f1 y hy]
      rw [l2]
      refine write_ok d2 (bs := x.b) (by
        have : Bytes H x.b (.own (h.length + 2) 0 x.b.length none) := .own g3 (by simp [bRow]) (by simp only [bRow, List.drop_zero]; exact take_map_len _)
        simpa using this) (fun l off n c e => by
        simp at e; intro ho; have := hd.lt ho; omega) hq fun h' d' k1 k2 k3 k4 => ?_
      (conv => whnf)
      have nown : ¬ own d (h.length + 2) := fun ho => by have := hd.lt ho; omega
      have nown' : ¬ own d' (h.length + 2) := fun ho => by
        rcases k4.new _ ho with h1 | h1
        · exact nown h1
        · omega
      have g4 : hget h' (h.length + 2) = some (bRow x.b true) := (k4.old _ (by omega) nown).trans g3
      have hl' := hget_lt g4
      have zl : ∀ n, (zeros [.int .u8 0] n).length = n := fun n => by rw [zeros_u8]; simp
      refine VB.clear_own (et := 5) (z := [.int .u8 0]) rfl rfl rfl (by omega) g4 (Nat.zero_le _) (by rw [zl]; simp [bRow]) (by rw [zeros_u8]; exact ofBytes_one _) ?_
      (conv => whnf)
      have k5 : DAt (h'.set (h.length + 2) (some { (bRow x.b true) with cells := splice (bRow x.b true).cells 0 (zeros [.int .u8 0] (0 + x.b.length)) })) d' := k1.frame fun y hy => hget_other fun e => nown' (e ▸ hy)
      have k6 : Frame h d (h'.set (h.length + 2) (some { (bRow x.b true) with cells := splice (bRow x.b true).cells 0 (zeros [.int .u8 0] (0 + x.b.length)) })) d' := by
        have k7 := fr2.trans k4
        exact ⟨by have := k7.len; simpa using this, fun y hy ho => by rw [hget_other (by omega), k7.old y hy ho], k7.new⟩
      exact hk _ d' k5 k2 k3 k6
  (conv => whnf)
  refine Kcond.eqI (fun h2 => ?_) (fun h2 => ?_)
  · have e : d.abs.did x = (([], d.abs.sync.1), d.abs.sync.2) := by unfold AD.did; rw [if_neg h0, if_neg h1, if_pos h2]
    rw [e] at hk
    (conv => whnf)
    refine sync_ok d1 fun h' d' k1 k2 k3 k4 => ?_
    (conv => whnf)
    exact hk h' d' k1 k2 k3 (fr1.trans k4)
  (conv => whnf)
  refine Kcond.eqI (fun h3 => ?_) (fun h3 => ?_)
  · have e : d.abs.did x = (([], 0), { d.abs with left := max x.n (-1) }) := by unfold AD.did; rw [if_neg h0, if_neg h1, if_neg h2, if_pos h3]
    rw [e] at hk
    (conv => whnf)
    refine VRow.of row ?_
    (conv => whnf)
    refine trip_ok d1 x.n hx.n fun h' k1 k2 => ?_
    (conv => whnf)
    exact hk h' _ k1 rfl rfl (fr1.trans k2)
  (conv => whnf)
  refine Kcond.eqI (fun h4 => ?_) (fun h4 => ?_)
  · have e : d.abs.did x = (([], 0), { d.abs with below := max x.n (-1) }) := by unfold AD.did; rw [if_neg h0, if_neg h1, if_neg h2, if_neg h3, if_pos h4]
    rw [e] at hk
    (conv => whnf)
    refine VRow.of row ?_
    (conv => whnf)
    refine cap_ok d1 x.n hx.n fun h' k1 k2 => ?_
    (conv => whnf)
    exact hk h' _ k1 rfl rfl (fr1.trans k2)
  (conv => whnf)
  refine Kcond.eqI (fun h5 => ?_) (fun h5 => ?_)
  · have e : d.abs.did x = (([], 0), d.abs.crash x.n x.m) := by unfold AD.did; rw [if_neg h0, if_neg h1, if_neg h2, if_neg h3, if_neg h4, if_pos h5]
    rw [e] at hk
    (conv => whnf)
    refine VRow.of row ?_
    (conv => whnf)
    refine VRow.of row ?_
    (conv => whnf)
    refine crash_ok d1 x.n x.m fun h' d' k1 k2 k3 k4 => ?_
    (conv => whnf)
    exact hk h' d' k1 k2 k3 (fr1.trans k4)
  · have e : d.abs.did x = (([], 0), d.abs) := by unfold AD.did; rw [if_neg h0, if_neg h1, if_neg h2, if_neg h3, if_neg h4, if_neg h5]
    rw [e] at hk
    (conv => whnf)
    exact hk _ _ d1 rfl rfl fr1
end Go.Proofs.Ytcdjkpppfghkpaa
