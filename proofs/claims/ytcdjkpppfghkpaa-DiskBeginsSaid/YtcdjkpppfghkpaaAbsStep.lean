/-
  What a step of the machine of values says of the model's world: rows that are told, rows that stay.
-/
import Derived.Test.YtcdjkpppfghkpaaAbsRel
import Derived.Laws.IdiomCopy
import Derived.Laws.Cells
import Derived.Laws.NewBlocks
set_option linter.unusedSimpArgs false
set_option linter.unusedVariables false
namespace Go.Abs
open Go

theorem hget_eq (h : Heap) (l : Nat) : hget h l = (h[l]?).join := by
  induction h generalizing l with
  | nil => simp [hget]
  | cons b t ih => cases l <;> simp [hget, ih]

theorem hget_set (h : Heap) (l : Nat) (b : Option Blk) (k : Nat) (hl : l < h.length) : hget (h.set l b) k = if k = l then b else hget h k := by
  simp only [hget_eq, List.getElem?_set]
  by_cases e : l = k
  · subst e; simp [hl]
  · have : ¬ k = l := fun h => e h.symm
    simp [e, this]
theorem hget_append (h : Heap) (b : Option Blk) (k : Nat) : hget (h ++ [b]) k = if k = h.length then b else hget h k := by
  simp only [hget_eq, List.getElem?_append]
  by_cases e : k < h.length
  · have : ¬ k = h.length := by omega
    simp [e, this]
  · by_cases e' : k = h.length
    · subst e'; simp
    · have : h.length < k := by omega
      simp [e, e']
      rw [List.getElem?_eq_none (by simp; omega)]
      rfl
theorem hget_lt {h : Heap} {l : Nat} {b : Blk} (e : hget h l = some b) : l < h.length := by
  rw [hget_eq] at e
  rcases Nat.lt_or_ge l h.length with h' | h'
  · exact h'
  · simp [List.getElem?_eq_none h'] at e

structure RowAt (P : Program) (m : Nat → Option Nat) (Z : Nat → Prop) (w : World) (blk : Blk) (b : Nat) : Prop where
  ex : ∃ (us rest : List Value) (fz : Nat × Nat), w.heap[b]? = some (.cells (us ++ rest).toArray blk.elem fz) ∧ VS P m Z w blk.cells us ∧ (blk.ext = false → rest = []) ∧
    (∀ j, j < us.length + rest.length → ¬ (fz.1 ≤ j ∧ j < fz.2))
  one : blk.cells.all AVal.one = true

structure HRel (P : Program) (m : Nat → Option Nat) (Z : Nat → Prop) (h : Heap) (w : World) : Prop where
  row : ∀ l blk, hget h l = some blk → ∃ b, m l = some b ∧ RowAt P m Z w blk b
  inj : ∀ l l' blk blk' b, hget h l = some blk → hget h l' = some blk' → m l = some b → m l' = some b → l = l'
  apart : ∀ l blk b, hget h l = some blk → m l = some b → ¬ Z b
  dom : ∀ l b, m l = some b → l < h.length ∧ b < w.heap.size
  zdom : ∀ b, Z b → b < w.heap.size

structure Step (base : Nat) (slot : Option Nat) (lb : Nat → Prop) (m : Nat → Option Nat) (Z : Nat → Prop) (h : Heap) (w : World) (m' : Nat → Option Nat) (Z' : Nat → Prop) (h' : Heap) (w' : World) : Prop where
  os : w'.os = w.os
  tape : w'.tape = w.tape
  output : w'.output = w.output
  size : w.heap.size ≤ w'.heap.size
  mm : ∀ l b, m l = some b → m' l = some b
  zz : ∀ b, Z b → Z' b
  fr : ∀ b, b < w.heap.size → (∀ l blk, base ≤ l → hget h l = some blk → m l ≠ some b) → ¬ lb b → w'.heap[b]? = w.heap[b]?
  shp : ∀ b x, w.shape? b = some x → w'.shape? b = some x
  keep : ∀ l, l < base → hget h' l = hget h l
  len : h.length ≤ h'.length
  foot : ∀ l blk b, base ≤ l → hget h' l = some blk → m' l = some b → w.heap.size ≤ b ∨ ∃ l0 blk0, base ≤ l0 ∧ hget h l0 = some blk0 ∧ m l0 = some b
  mo : ∀ l, l < h.length → slot ≠ some l → m' l = m l
  zc : ∀ b o, Z b → w'.cell? ⟨b, o, none⟩ = w.cell? ⟨b, o, none⟩
  zn : ∀ b, Z' b → Z b ∨ w.heap.size ≤ b

/-- no block -/
def noLb : Nat → Prop := fun _ => False

variable {P : Program} {m m' m'' : Nat → Option Nat} {Z Z' Z'' : Nat → Prop} {h h' h'' : Heap} {w w' w'' : World} {base : Nat} {slot : Option Nat} {lb : Nat → Prop}

theorem Step.refl (base : Nat) (slot : Option Nat) (lb : Nat → Prop) (m : Nat → Option Nat) (Z : Nat → Prop) (h : Heap) (w : World) : Step base slot lb m Z h w m Z h w :=
  ⟨rfl, rfl, rfl, Nat.le_refl _, fun _ _ e => e, fun _ e => e, fun _ _ _ _ => rfl, fun _ _ e => e, fun _ _ => rfl, Nat.le_refl _, fun l blk _ hb e e' => .inr ⟨l, blk, hb, e, e'⟩, fun _ _ _ => rfl, fun _ _ _ => rfl, fun _ z => .inl z⟩

theorem Step.drew (s : Step base slot lb m Z h w m' Z' h' w') (n : Nat) : Step base slot lb m Z h w m' Z' h' { w' with drawn := n } :=
  ⟨s.os, s.tape, s.output, s.size, s.mm, s.zz, s.fr, s.shp, s.keep, s.len, s.foot, s.mo, s.zc, s.zn⟩

theorem cell_of_heap {w w' : World} {b o : Nat} (e : w'.heap[b]? = w.heap[b]?) : w'.cell? ⟨b, o, none⟩ = w.cell? ⟨b, o, none⟩ := by
  simp only [World.cell?, e]

theorem Step.stays (r : HRel P m Z h w) (s : Step base slot lb m Z h w m' Z' h' w') : Stays m Z w m' Z' w' :=
  ⟨s.mm, s.zz, fun b o hz => s.zc b o hz, s.shp⟩

theorem Step.trans (s : Step base slot lb m Z h w m' Z' h' w') (t : Step base slot lb m' Z' h' w' m'' Z'' h'' w'') : Step base slot lb m Z h w m'' Z'' h'' w'' where
  os := t.os.trans s.os
  tape := t.tape.trans s.tape
  output := t.output.trans s.output
  size := Nat.le_trans s.size t.size
  mm := fun l b e => t.mm l b (s.mm l b e)
  zz := fun b e => t.zz b (s.zz b e)
  zc := fun b o hz => (t.zc b o (s.zz b hz)).trans (s.zc b o hz)
  zn := fun b hz => (t.zn b hz).elim (s.zn b) fun hb => .inr (Nat.le_trans s.size hb)
  fr := fun b hb hn hlb => by
    rw [t.fr b (Nat.lt_of_lt_of_le hb s.size) (fun l blk hl e e' => ?_) hlb, s.fr b hb hn hlb]
    rcases s.foot l blk b hl e e' with h1 | ⟨l0, blk0, h1, h2, h3⟩
    · omega
    · exact hn l0 blk0 h1 h2 h3
  shp := fun b x e => t.shp b x (s.shp b x e)
  keep := fun l hl => (t.keep l hl).trans (s.keep l hl)
  len := Nat.le_trans s.len t.len
  foot := fun l blk b hl e e' => by
    rcases t.foot l blk b hl e e' with h1 | ⟨l0, blk0, h1, h2, h3⟩
    · exact .inl (Nat.le_trans s.size h1)
    · exact s.foot l0 blk0 b h1 h2 h3
  mo := fun l hl hs => (t.mo l (Nat.lt_of_lt_of_le hl s.len) hs).trans (s.mo l hl hs)

theorem Step.anyslot (s : Step base none lb m Z h w m' Z' h' w') : Step base slot lb m Z h w m' Z' h' w' :=
  ⟨s.os, s.tape, s.output, s.size, s.mm, s.zz, s.fr, s.shp, s.keep, s.len, s.foot, (fun l hl _ => s.mo l hl (by simp)), s.zc, s.zn⟩

theorem Step.anyLb (s : Step base slot noLb m Z h w m' Z' h' w') : Step base slot lb m Z h w m' Z' h' w' :=
  ⟨s.os, s.tape, s.output, s.size, s.mm, s.zz, fun b h1 h2 _ => s.fr b h1 h2 (fun h => h), s.shp, s.keep, s.len, s.foot, s.mo, s.zc, s.zn⟩

/-- a step that may write fewer rows is one that may write more -/
theorem Step.mono {base' : Nat} (s : Step base slot lb m Z h w m' Z' h' w') (r : HRel P m Z h w) (hb : base' ≤ base) : Step base' slot lb m Z h w m' Z' h' w' where
  os := s.os
  tape := s.tape
  output := s.output
  size := s.size
  mm := s.mm
  zz := s.zz
  zc := s.zc
  zn := s.zn
  fr := fun b hb' hn hlb => s.fr b hb' (fun l blk hl e => hn l blk (Nat.le_trans hb hl) e) hlb
  shp := s.shp
  keep := fun l hl => s.keep l (Nat.lt_of_lt_of_le hl hb)
  len := s.len
  mo := s.mo
  foot := fun l blk b hl e e' => by
    by_cases hlt : base ≤ l
    · rcases s.foot l blk b hlt e e' with h1 | ⟨l0, blk0, h1, h2, h3⟩
      · exact .inl h1
      · exact .inr ⟨l0, blk0, Nat.le_trans hb h1, h2, h3⟩
    · rw [s.keep l (by omega)] at e
      obtain ⟨b0, hb0, _⟩ := r.row l blk e
      have h2 := s.mm l b0 hb0
      rw [e'] at h2
      simp at h2; subst h2
      exact .inr ⟨l, blk, hl, e, hb0⟩

/-! ### values of one cell -/
theorem V.oneCell {a : AVal} {v : Value} (hv : V P m Z w a v) (h1 : a.one = true) : v.oneCell' = true := by
  cases a with
  | undef | agg _ | tup _ => simp [AVal.one] at h1
  | bool _ | int _ _ | str _ | nilFunc => simp only [V] at hv; subst hv; rfl
  | ptr l => cases l with
    | none => simp only [V] at hv; subst hv; rfl
    | some p => simp only [V] at hv; obtain ⟨b, _, rfl⟩ := hv; rfl
  | cref c => simp only [V] at hv; obtain ⟨b, o, rfl, _⟩ := hv; rfl
  | own _ _ _ _ => simp only [V] at hv; obtain ⟨b, a, cp, _, rfl, _⟩ := hv; rfl
  | lst _ _ => simp only [V] at hv; obtain ⟨b, cp, rfl, _⟩ := hv; rfl
  | func _ _ _ => simp only [V] at hv; obtain ⟨f, c, rfl, _⟩ := hv; rfl
  | yld _ => simp only [V] at hv; obtain ⟨b, _, rfl⟩ := hv; rfl

theorem VS.oneCell {as : List AVal} {vs : List Value} (hv : VS P m Z w as vs) (h1 : as.all AVal.one = true) : ∀ v ∈ vs, v.oneCell' = true := by
  induction as generalizing vs with
  | nil => simp only [VS] at hv; subst hv; simp
  | cons a as ih =>
    simp only [VS] at hv
    obtain ⟨v, vs', rfl, h2, h3⟩ := hv
    simp only [List.all_cons, Bool.and_eq_true] at h1
    intro u hu
    rcases List.mem_cons.1 hu with rfl | hu
    · exact h2.oneCell h1.1
    · exact ih h3 h1.2 u hu

theorem VS.length {as : List AVal} {vs : List Value} (hv : VS P m Z w as vs) : vs.length = as.length := by
  induction as generalizing vs with
  | nil => simp only [VS] at hv; subst hv; rfl
  | cons a as ih =>
    simp only [VS] at hv
    obtain ⟨v, vs', rfl, h2, h3⟩ := hv
    simp [ih h3]

theorem VS.append {as bs : List AVal} {vs us : List Value} (hv : VS P m Z w as vs) (hu : VS P m Z w bs us) : VS P m Z w (as ++ bs) (vs ++ us) := by
  induction as generalizing vs with
  | nil => simp only [VS] at hv; subst hv; exact hu
  | cons a as ih =>
    simp only [VS] at hv
    obtain ⟨v, vs', rfl, h2, h3⟩ := hv
    simp only [List.cons_append, VS]
    exact ⟨v, _, rfl, h2, ih h3⟩

theorem VS.take {as : List AVal} {vs : List Value} (hv : VS P m Z w as vs) (n : Nat) : VS P m Z w (as.take n) (vs.take n) := by
  induction as generalizing vs n with
  | nil => simp only [VS] at hv; subst hv; simp [VS]
  | cons a as ih =>
    simp only [VS] at hv
    obtain ⟨v, vs', rfl, h2, h3⟩ := hv
    cases n with
    | zero => simp [VS]
    | succ n => simp only [List.take_succ_cons, VS]; exact ⟨v, _, rfl, h2, ih h3 n⟩

theorem VS.drop {as : List AVal} {vs : List Value} (hv : VS P m Z w as vs) (n : Nat) : VS P m Z w (as.drop n) (vs.drop n) := by
  induction as generalizing vs n with
  | nil => simp only [VS] at hv; subst hv; simp [VS]
  | cons a as ih =>
    cases n with
    | zero => simpa using hv
    | succ n =>
      simp only [VS] at hv
      obtain ⟨v, vs', rfl, h2, h3⟩ := hv
      simpa using ih h3 n

theorem VS.get {as : List AVal} {vs : List Value} (hv : VS P m Z w as vs) {i : Nat} {a : AVal} (ha : as[i]? = some a) : ∃ v, vs[i]? = some v ∧ V P m Z w a v := by
  induction as generalizing vs i with
  | nil => simp at ha
  | cons x as ih =>
    simp only [VS] at hv
    obtain ⟨v, vs', rfl, h2, h3⟩ := hv
    cases i with
    | zero => simp at ha; subst ha; exact ⟨v, rfl, h2⟩
    | succ i => simp at ha; simpa using ih h3 ha

theorem splice_length (xs : List AVal) (o : Nat) (ys : List AVal) (hl : o + ys.length ≤ xs.length) : (splice xs o ys).length = xs.length := by
  simp [splice]; omega

/-! ### a new row -/
def upd (m : Nat → Option Nat) (l b : Nat) : Nat → Option Nat := fun x => if x = l then some b else m x

theorem halloc_get {h h' : Heap} {slot : Option Nat} {blk : Blk} {l : Nat} (e : halloc h slot blk = some (l, h')) :
    (∀ k, hget h' k = if k = l then some blk else hget h k) ∧ hget h l = none ∧ h.length ≤ h'.length ∧ l < h'.length ∧ blk.cells.all AVal.one = true ∧ (slot = none ∧ l = h.length ∨ slot = some l) := by
  unfold halloc at e
  split at e
  · rename_i hone
    cases slot with
    | none =>
      simp only [Option.some.injEq, Prod.mk.injEq] at e
      obtain ⟨rfl, rfl⟩ := e
      refine ⟨fun k => hget_append h _ k, ?_, by simp, by simp, hone, .inl ⟨rfl, rfl⟩⟩
      rw [hget_eq, List.getElem?_eq_none (Nat.le_refl _)]; rfl
    | some s =>
      simp only at e
      split at e
      · rename_i hs
        simp only [Option.some.injEq, Prod.mk.injEq] at e
        obtain ⟨rfl, rfl⟩ := e
        have hl : s < h.length := by
          rcases Nat.lt_or_ge s h.length with h' | h'
          · exact h'
          · simp [List.getElem?_eq_none h'] at hs
        refine ⟨fun k => hget_set h s _ k hl, ?_, by simp, by simpa using hl, hone, .inr rfl⟩
        rw [hget_eq, hs]; rfl
      · cases e
  · cases e

theorem shape_push (w : World) (o : Obj) (b : Nat) (x : TypeId × Nat) (e : w.shape? b = some x) (w' : World) (hw : w'.heap = w.heap.push o) : w'.shape? b = some x := by
  unfold World.shape? at e ⊢
  rw [hw, Array.getElem?_push]
  split at e
  · rename_i hb
    have : b < w.heap.size := (Array.getElem?_eq_some_iff.1 hb).1
    rw [if_neg (by omega)]
    rw [hb]; exact e
  · cases e

theorem alloc_rel (r : HRel P m Z h w) {slot : Option Nat} {blk : Blk} {l : Nat} (e : halloc h slot blk = some (l, h')) (hm : m l = none)
    {us rest : List Value} {fz : Nat × Nat} (hv : VS P m Z w blk.cells us) (hx : blk.ext = false → rest = []) (hf : ∀ j, j < us.length + rest.length → ¬ (fz.1 ≤ j ∧ j < fz.2))
    (hw : w'.heap = w.heap.push (.cells (us ++ rest).toArray blk.elem fz)) (ho : w'.os = w.os) (ht : w'.tape = w.tape) (hp : w'.output = w.output) (hbase : base ≤ l) :
    HRel P (upd m l w.heap.size) Z h' w' ∧ Step base slot lb m Z h w (upd m l w.heap.size) Z h' w' := by
  obtain ⟨hg, hn, hlen, hlt, hone, hslot⟩ := halloc_get e
  have hsz : w'.heap.size = w.heap.size + 1 := by rw [hw]; simp
  have old : ∀ b, b < w.heap.size → w'.heap[b]? = w.heap[b]? := fun b hb => by rw [hw, Array.getElem?_push, if_neg (by omega)]
  have mm : ∀ k b, m k = some b → upd m l w.heap.size k = some b := fun k b hk => by
    unfold upd; split
    · rename_i h1; subst h1; rw [hm] at hk; cases hk
    · exact hk
  have S : Step base slot lb m Z h w (upd m l w.heap.size) Z h' w' := by
    refine ⟨ho, ht, hp, by omega, mm, fun _ z => z, fun b hb _ _ => old b hb, fun b x hx => shape_push w _ b x hx w' hw, fun k hk => by rw [hg, if_neg (by omega)], hlen, fun k bk b hk e1 e2 => ?_, fun k hk hs => ?_, fun b o hz => cell_of_heap (old b (r.zdom b hz)), fun _ z => .inl z⟩
    · unfold upd at e2
      rw [hg] at e1
      split at e2
      · simp at e2; exact .inl (by omega)
      · rename_i h1; rw [if_neg h1] at e1; exact .inr ⟨k, bk, hk, e1, e2⟩
    · unfold upd
      rw [if_neg]
      intro hkl; subst hkl
      rcases hslot with ⟨rfl, rfl⟩ | rfl
      · omega
      · exact hs rfl
  have st := S.stays r
  refine ⟨⟨fun k bk e1 => ?_, fun k k' bk bk' b e1 e2 e3 e4 => ?_, fun k bk b e1 e2 => ?_, fun k b e1 => ?_, fun b hz => by have := r.zdom b hz; omega⟩, S⟩
  · rw [hg] at e1
    split at e1
    · rename_i h1; subst h1
      simp at e1; subst e1
      refine ⟨w.heap.size, by simp [upd], ⟨us, rest, fz, ?_, VS.stays st hv, hx, hf⟩, hone⟩
      rw [hw]; simp
    · rename_i h1
      obtain ⟨b, hb, ⟨us', rest', fz', g1, g2, g3, g4⟩, g5⟩ := r.row k bk e1
      exact ⟨b, mm k b hb, ⟨us', rest', fz', by rw [old b (r.dom k b hb).2]; exact g1, VS.stays st g2, g3, g4⟩, g5⟩
  · rw [hg] at e1 e2
    unfold upd at e3 e4
    split at e3 <;> rename_i h1 <;> split at e4 <;> rename_i h2
    · omega
    · simp at e3; subst e3; have := (r.dom k' _ e4).2; omega
    · simp at e4; subst e4; have := (r.dom k _ e3).2; omega
    · rw [if_neg h1] at e1; rw [if_neg h2] at e2; exact r.inj k k' bk bk' b e1 e2 e3 e4
  · rw [hg] at e1
    unfold upd at e2
    split at e2 <;> rename_i h1
    · simp at e2; subst e2; intro hz; have := r.zdom _ hz; omega
    · rw [if_neg h1] at e1; exact r.apart k bk b e1 e2
  · unfold upd at e1
    split at e1 <;> rename_i h1
    · simp at e1; subst h1; exact ⟨hlt, by omega⟩
    · have := r.dom k b e1; exact ⟨by omega, by omega⟩

/-! ### cells written -/
def spliceV (xs : List Value) (o : Nat) (ys : List Value) : List Value := xs.take o ++ ys ++ xs.drop (o + ys.length)

theorem spliceV_nil (xs : List Value) (o : Nat) : spliceV xs o [] = xs := by simp [spliceV]

theorem spliceV_cons (xs : List Value) (o : Nat) (y : Value) (ys : List Value) (hl : o + (ys.length + 1) ≤ xs.length) :
    spliceV (xs.set o y) (o + 1) ys = spliceV xs o (y :: ys) := by
  have h1 : (xs.set o y).take (o + 1) = xs.take o ++ [y] := by
    apply List.ext_getElem?
    intro i
    simp only [List.getElem?_take, List.getElem?_append, List.length_take, List.getElem?_set]
    by_cases h1 : i < o
    · have : ¬ o = i := by omega
      simp [h1, this, show i < o + 1 by omega, show i < xs.length by omega]
      intro hh; omega
    · by_cases h2 : i = o
      · subst h2; simp [show i < xs.length by omega, show min i xs.length = i by omega]
      · simp [h1, show ¬ i < o + 1 by omega, show min o xs.length = o by omega]
        omega
  simp only [spliceV, h1, List.length_cons, List.append_assoc, List.cons_append, List.nil_append]
  congr 3
  rw [List.drop_set_of_lt (by omega)]
  congr 1
  omega

theorem run_storeCells_own (P : Program) (b o : Nat) (elem : TypeId) (fz : Nat × Nat) : ∀ (ys : List Value) (i : Nat) (w : World) (xs : List Value),
    w.heap[b]? = some (.cells xs.toArray elem fz) → o + i + ys.length ≤ xs.length → (∀ v ∈ ys, v.oneCell' = true) → (∀ j, j < xs.length → ¬ (fz.1 ≤ j ∧ j < fz.2)) →
    ∃ w', (storeCells ⟨b, o, none⟩ ys i).run P w = .ok () w' ∧ w'.heap[b]? = some (.cells (spliceV xs (o + i) ys).toArray elem fz) ∧ (∀ k, k ≠ b → w'.heap[k]? = w.heap[k]?) ∧
      w'.heap.size = w.heap.size ∧ w'.os = w.os ∧ w'.tape = w.tape ∧ w'.output = w.output
  | [], i, w, xs, hb, _, _, _ => ⟨w, rfl, by rw [spliceV_nil]; exact hb, fun _ _ => rfl, rfl, rfl, rfl, rfl⟩
  | y :: ys, i, w, xs, hb, hl, hone, hfz => by
    simp only [List.length_cons] at hl
    have hadd : (⟨b, o, none⟩ : Addr).add i = ⟨b, o + i, none⟩ := by unfold Addr.add; split <;> simp_all
    have hc : w.cell? ⟨b, o + i, none⟩ = some (xs[o + i]'(by omega)) := by
      simp [World.cell?, hb]
    have hf : w.frozen? ⟨b, o + i, none⟩ = false := by
      have := hfz (o + i) (by omega)
      simp only [World.frozen?, hb]
      simpa using this
    have hset : (w.setCell ⟨b, o + i, none⟩ y).heap[b]? = some (.cells (xs.set (o + i) y).toArray elem fz) := by
      simp only [World.setCell, Array.getElem?_modify, hb, if_true, Option.map_some]
      simp
    obtain ⟨w', h1, h2, h3, h4, h5, h6, h7⟩ := run_storeCells_own P b o elem fz ys (i + 1) (w.setCell ⟨b, o + i, none⟩ y) (xs.set (o + i) y) hset (by simp; omega)
      (fun v hv => hone v (by simp [hv])) (fun j hj => hfz j (by simpa using hj))
    refine ⟨w', ?_, ?_, fun k hk => ?_, ?_, h5, h6, h7⟩
    · simp only [storeCells, hadd, Sem.run_bind]
      rw [run_store P w _ y .plain (hone y (by simp))]
      simp only [hc, hf]
      exact h1
    · rw [h2]
      have : o + (i + 1) = (o + i) + 1 := by omega
      rw [this, spliceV_cons xs (o + i) y ys (by omega)]
    · rw [h3 k hk]
      simp only [World.setCell, Array.getElem?_modify]
      rw [if_neg (by omega)]
    · rw [h4]; simp [World.setCell]

theorem VS.splice {as bs : List AVal} {vs us : List Value} (hv : VS P m Z w as vs) (hu : VS P m Z w bs us) (o : Nat) : VS P m Z w (splice as o bs) (spliceV vs o us) := by
  unfold Go.Abs.splice spliceV
  rw [hu.length]
  exact ((hv.take o).append hu).append (hv.drop _)

theorem all_splice {as bs : List AVal} (ha : as.all AVal.one = true) (hb : bs.all AVal.one = true) (o : Nat) : (splice as o bs).all AVal.one = true := by
  rw [List.all_eq_true] at *
  intro x hx
  simp only [splice, List.mem_append] at hx
  rcases hx with (hx | hx) | hx
  · exact ha x (List.mem_of_mem_take hx)
  · exact hb x hx
  · exact ha x (List.mem_of_mem_drop hx)

theorem write_rel (r : HRel P m Z h w) {l o : Nat} {vs : List AVal} (e : write h base l o vs = some h') {us : List Value} (hv : VS P m Z w vs us) {b : Nat} (hm : m l = some b) :
    ∃ w', (storeCells ⟨b, o, none⟩ us).run P w = .ok () w' ∧ HRel P m Z h' w' ∧ Step base slot lb m Z h w m Z h' w' := by
  unfold write at e
  split at e
  case h_2 => cases e
  rename_i blk hblk
  split at e
  case isFalse => cases e
  rename_i hc
  obtain ⟨hbase, hlen, hone⟩ := hc
  simp only [Option.some.injEq] at e
  subst e
  have hll := hget_lt hblk
  obtain ⟨b', hb', ⟨us0, rest, fz, g1, g2, g3, g4⟩, g5⟩ := r.row l blk hblk
  rw [hm] at hb'; simp at hb'; subst hb'
  have hl0 := g2.length
  obtain ⟨w', h1, h2, h3, h4, h5, h6, h7⟩ := run_storeCells_own P b o blk.elem fz us 0 w (us0 ++ rest) g1 (by rw [hv.length]; simp; omega) (hv.oneCell hone) (by simpa using g4)
  have hsp : spliceV (us0 ++ rest) o us = spliceV us0 o us ++ rest := by
    have := hv.length
    simp only [spliceV, List.take_append, List.drop_append, hl0]
    rw [show o - blk.cells.length = 0 by omega, show o + us.length - blk.cells.length = 0 by omega]
    simp
  rw [Nat.add_zero, hsp] at h2
  have S : Step base slot lb m Z h w m Z (h.set l (some { blk with cells := splice blk.cells o vs })) w' := by
    refine ⟨h5, h6, h7, by omega, fun _ _ e => e, fun _ z => z, fun k hk hn _ => h3 k fun hkb => hn l blk hbase hblk (hkb ▸ hm), fun k x hx => ?_, fun k hk => ?_, by simp, fun k bk b' hk e1 e2 => ?_, fun _ _ _ => rfl, fun k o hz => cell_of_heap (h3 k fun hkb => r.apart l blk b hblk hm (hkb ▸ hz)), fun _ z => .inl z⟩
    · unfold World.shape? at hx ⊢
      by_cases hkb : k = b
      · subst hkb
        rw [g1] at hx
        rw [h2]
        simp only [Option.some.injEq] at hx ⊢
        rw [← hx]
        have := hv.length
        simp [spliceV]; omega
      · rw [h3 k hkb]; exact hx
    · rw [hget_set _ _ _ _ hll, if_neg (by omega)]
    · rw [hget_set _ _ _ _ hll] at e1
      split at e1
      · rename_i hkl; subst hkl; exact .inr ⟨k, blk, hbase, hblk, e2⟩
      · exact .inr ⟨k, bk, hk, e1, e2⟩
  have st := S.stays r
  refine ⟨w', h1, ⟨fun k bk e1 => ?_, fun k k' bk bk' b'' e1 e2 e3 e4 => ?_, fun k bk b'' e1 e2 => ?_, fun k b'' e1 => ?_, fun b'' hz => by have := r.zdom b'' hz; omega⟩, S⟩
  · rw [hget_set _ _ _ _ hll] at e1
    split at e1
    · rename_i hkl; subst hkl
      simp only [Option.some.injEq] at e1; subst e1
      refine ⟨b, hm, ⟨spliceV us0 o us, rest, fz, h2, VS.stays st (g2.splice hv o), g3, fun j hj => g4 j ?_⟩, all_splice g5 hone o⟩
      have := hv.length
      simp [spliceV] at hj
      omega
    · rename_i hkl
      obtain ⟨b2, hb2, ⟨us', rest', fz', k1, k2, k3, k4⟩, k5⟩ := r.row k bk e1
      have hne : b2 ≠ b := fun hh => hkl (r.inj k l bk blk b e1 hblk (hh ▸ hb2) hm)
      exact ⟨b2, hb2, ⟨us', rest', fz', by rw [h3 b2 hne]; exact k1, VS.stays st k2, k3, k4⟩, k5⟩
  · have lv : ∀ k bk, hget (h.set l (some { blk with cells := splice blk.cells o vs })) k = some bk → ∃ bk0, hget h k = some bk0 := fun k bk e => by
      rw [hget_set _ _ _ _ hll] at e
      split at e
      · rename_i hkl; subst hkl; exact ⟨blk, hblk⟩
      · exact ⟨bk, e⟩
    obtain ⟨x1, y1⟩ := lv k bk e1
    obtain ⟨x2, y2⟩ := lv k' bk' e2
    exact r.inj k k' x1 x2 b'' y1 y2 e3 e4
  · rw [hget_set _ _ _ _ hll] at e1
    split at e1
    · rename_i hkl; subst hkl; exact r.apart k blk b'' hblk e2
    · exact r.apart k bk b'' e1 e2
  · have := r.dom k b'' e1
    exact ⟨by simpa using this.1, by omega⟩
end Go.Abs
