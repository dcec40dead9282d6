/-
  The arguments of a law, read as data, and as the machine of values has them; a law's call.
-/
import Derived.Test.YtcdjkpppfghkpaaAbsV
import Derived.ChangeArms
import Derived.Carry
set_option linter.unusedVariables false
set_option linter.unusedSimpArgs false
namespace Go.Abs
open Go

/-- all that lies there -/
def oldZ (w : World) : Nat → Prop := fun b => b < w.heap.size

/-- what can be read at a type has such cells -/
def Reads (P : Program) (t : TypeId) (S : List AVal → Prop) : Prop := ∀ (H : Type) (enc : TypeId × Value → H) (w : World) (sp : Nat → Bool) (held : Bool) (fuel : Nat) (cs : List Value) (x : DataW H × List MemPlace),
  DataW.trod enc P w 0 sp held fuel t cs = some x → ∃ as, S as ∧ VS P nm0 (oldZ w) w as cs

variable {P : Program} {t e : TypeId} {S S' : List AVal → Prop}

theorem Reads.mono (h : Reads P t S) (hs : ∀ as, S as → S' as) : Reads P t S' := fun H enc w sp held fuel cs x hx => by
  obtain ⟨as, h1, h2⟩ := h H enc w sp held fuel cs x hx
  exact ⟨as, hs as h1, h2⟩

theorem reads_int {k : IntKind} (ht : P.underlying t = some (.int k)) : Reads P t fun as => ∃ n, as = [.int k n] ∧ (Lit.int k n).wf = true := by
  intro H enc w sp held fuel cs x hx
  obtain ⟨n, rfl, _, hw⟩ := DataW.trod_int ht hx
  exact ⟨[.int k n], ⟨n, rfl, hw⟩, by simp [VS, V]⟩

theorem reads_bool (ht : P.underlying t = some .bool) : Reads P t fun as => ∃ b, as = [.bool b] := by
  intro H enc w sp held fuel cs x hx
  obtain ⟨b, rfl, _⟩ := DataW.trod_bool ht hx
  exact ⟨[.bool b], ⟨b, rfl⟩, by simp [VS, V]⟩

theorem VS_split {m : Nat → Option Nat} {Z : Nat → Prop} {w : World} : ∀ {as : List AVal} {vs us : List Value}, True → VS P m Z w as (vs ++ us) → True := fun _ _ => trivial

theorem cells_mem {w : World} {a : Addr} {n : Nat} {cs : List Value} (h : w.cells? 0 a n = some cs) : cs.length = n ∧ ∀ i, i < n → w.cell? (a.add i) = cs[i]? := by
  unfold World.cells? at h
  rw [if_pos (Nat.zero_le _)] at h
  have key : ∀ (l : List Nat) (cs : List Value), l.mapM (fun i => w.cell? (a.add i)) = some cs → cs.length = l.length ∧ ∀ (j i : Nat), l[j]? = some i → w.cell? (a.add i) = cs[j]? := by
    intro l
    induction l with
    | nil => intro cs h; simp at h; subst h; simp
    | cons y l ih =>
      intro cs h
      simp only [List.mapM_cons, Option.pure_def, Option.bind_eq_bind, Option.bind_eq_some_iff, Option.some.injEq] at h
      obtain ⟨v, h1, vs, h2, rfl⟩ := h
      obtain ⟨h3, h4⟩ := ih vs h2
      refine ⟨by simp [h3], fun j i hj => ?_⟩
      cases j with
      | zero => simp at hj; subst hj; simp [h1]
      | succ j => simp at hj ⊢; exact h4 j i hj
  obtain ⟨h1, h2⟩ := key _ cs h
  refine ⟨by simpa using h1, fun i hi => h2 i i (by simp [hi])⟩

theorem VC_of_cells {m : Nat → Option Nat} {Z : Nat → Prop} {w : World} {b : Nat} : ∀ {as : List AVal} {vs : List Value} {o : Nat}, VS P m Z w as vs → (∀ i, i < vs.length → w.cell? ⟨b, o + i, none⟩ = vs[i]?) → VC P m Z w as b o
  | [], vs, o, hv, h => by simp only [VC]
  | a :: as, vs, o, hv, h => by
    simp only [VS] at hv
    obtain ⟨v, vs', rfl, h1, h2⟩ := hv
    simp only [VC]
    refine ⟨⟨v, by simpa using h 0 (by simp), h1⟩, VC_of_cells h2 fun i hi => ?_⟩
    have := h (i + 1) (by simp; omega)
    simp at this
    rw [← this, show o + 1 + i = o + (i + 1) by omega]

theorem cell_lt {w : World} {a : Addr} {v : Value} (h : w.cell? a = some v) : a.block < w.heap.size ∧ a.spot = none := by
  unfold World.cell? at h
  split at h
  · rename_i c _ _ hc
    refine ⟨(Array.getElem?_eq_some_iff.1 hc).1, ?_⟩
    split at h
    · cases h
    · rename_i hs; simpa using hs
  · cases h

theorem reads_slice {n : Nat} (ht : P.underlying t = some (.slice e)) (hn : P.cellsOf e = n) (hpos : n ≠ 0) (he : Reads P e S) : Reads P t fun as => ∃ b xs, as = [.lst b xs] ∧ (b = true → xs = []) ∧ (∀ x, x ∈ xs → S x) ∧ xs.length ≤ maxLen := by
  subst hn
  intro H enc w sp held fuel cs x hx
  rcases DataW.trod_slice ht hx with ⟨rfl, _⟩ | ⟨a, len, cap, elems, rest, k, _, rfl, _, _, hl, hm, hlen, hel, _, _⟩
  · exact ⟨[.lst true []], ⟨true, [], rfl, fun _ => rfl, fun x hx => (by cases hx), Nat.zero_le _⟩, by simp [VS, V]⟩
  · have key : ∀ i, i < len → ∃ as, S as ∧ as.length = P.cellsOf e ∧ VC P nm0 (oldZ w) w as a.block (a.off + i * P.cellsOf e) ∧ a.block < w.heap.size ∧ (i = 0 → a.spot = none) := by
      intro i hi
      have h1 := hel i hi
      rw [List.getElem?_eq_getElem (by omega)] at h1
      obtain ⟨cs', h2, h3⟩ := Option.bind_eq_some_iff.1 h1
      obtain ⟨as, h4, h5⟩ := he H enc w sp held k cs' _ h3
      obtain ⟨h6, h7⟩ := cells_mem h2
      have hsp : ∀ j, j < P.cellsOf e → ((a.add (i * P.cellsOf e)).add j) = ⟨a.block, a.off + i * P.cellsOf e + j, none⟩ ∧ a.block < w.heap.size ∧ (i = 0 → a.spot = none) := by
        have h8 := h7 0 (by omega)
        rw [List.getElem?_eq_getElem (by omega)] at h8
        have h9 := cell_lt h8
        have ha : (a.add (i * P.cellsOf e)).spot = none := by simpa [Addr.add] using h9.2
        have hb : (a.add (i * P.cellsOf e)).block = a.block := by unfold Addr.add; split <;> rfl
        have ho : (a.add (i * P.cellsOf e)).off = a.off + i * P.cellsOf e := by unfold Addr.add; split <;> simp_all
        intro j hj
        refine ⟨?_, ?_, fun hi0 => ?_⟩
        · have : ∀ (q : Addr) (j : Nat), q.spot = none → q.add j = ⟨q.block, q.off + j, none⟩ := by
            intro q j hq
            unfold Addr.add
            split
            · rename_i h0; subst h0; cases q; simp at hq; subst hq; simp
            · rfl
          rw [this _ j ha, hb, ho]
        · have := h9.1
          rw [show ((a.add (i * P.cellsOf e)).add 0) = a.add (i * P.cellsOf e) by simp [Addr.add], hb] at this
          exact this
        · subst hi0
          simpa [Addr.add] using ha
      refine ⟨as, h4, by rw [← h5.length, h6], VC_of_cells h5 fun j hj => ?_, (hsp 0 (by omega)).2.1, (hsp 0 (by omega)).2.2⟩
      rw [← (hsp j (by omega)).1]
      exact h7 j (by omega)
    have all : ∀ m, m ≤ len → ∃ xs : List (List AVal), xs.length = m ∧ (∀ x, x ∈ xs → S x) ∧ ∀ i c, xs[i]? = some c → c.length = P.cellsOf e ∧ VC P nm0 (oldZ w) w c a.block (a.off + i * P.cellsOf e) := by
      intro m
      induction m with
      | zero => intro _; exact ⟨[], rfl, fun x hx => (by cases hx), fun i c hc => by simp at hc⟩
      | succ m ih =>
        intro hm'
        obtain ⟨xs, h1, h2, h3⟩ := ih (by omega)
        obtain ⟨as, h4, h5, h6, _⟩ := key m (by omega)
        refine ⟨xs ++ [as], by simp [h1], fun x hx => ?_, fun i c hc => ?_⟩
        · rcases List.mem_append.1 hx with hx | hx
          · exact h2 x hx
          · simp at hx; subst hx; exact h4
        · rw [List.getElem?_append] at hc
          split at hc
          · exact h3 i c hc
          · rename_i hi
            have : i = m := by
              rw [List.getElem?_eq_some_iff] at hc
              obtain ⟨hc, _⟩ := hc
              simp at hc
              omega
            subst this
            rw [h1] at hc
            simp at hc
            subst hc
            exact ⟨h5, h6⟩
    obtain ⟨xs, h1, h2, h3⟩ := all len (Nat.le_refl _)
    refine ⟨[.lst false xs], ⟨false, xs, rfl, (fun h => by cases h), h2, by omega⟩, ?_⟩
    simp only [VS, V]
    refine ⟨_, [], rfl, ⟨some a, cap, by rw [h1], by omega, rfl, (fun h => by cases h), fun hne => ?_⟩, rfl⟩
    have hl0 : 0 < len := by
      rcases Nat.eq_zero_or_pos len with h0 | h0
      · exact absurd (List.length_eq_zero_iff.1 (h1.trans h0)) hne
      · exact h0
    obtain ⟨_, _, _, _, hz, hs⟩ := key 0 hl0
    refine ⟨a.block, a.off, P.cellsOf e, ?_, hz, ?_⟩
    · have := hs rfl
      cases a; simp at this; subst this; rfl
    · have : ∀ (ys : List (List AVal)) (o : Nat), (∀ i c, ys[i]? = some c → c.length = P.cellsOf e ∧ VC P nm0 (oldZ w) w c a.block (o + i * P.cellsOf e)) → VR P nm0 (oldZ w) w (P.cellsOf e) ys a.block o := by
        intro ys
        induction ys with
        | nil => intro o _; simp only [VR]
        | cons y ys ih =>
          intro o h
          simp only [VR]
          have h0 := h 0 y rfl
          refine ⟨h0.1, by simpa using h0.2, ih _ fun i c hc => ?_⟩
          have := h (i + 1) c (by simpa using hc)
          rw [show o + P.cellsOf e + i * P.cellsOf e = o + (i + 1) * P.cellsOf e by rw [Nat.succ_mul]; omega]
          exact this
      exact this xs a.off h3

/-- a struct's fields, one behind another -/
inductive FR (P : Program) : List Field → Nat → Nat → (List AVal → Prop) → Prop
  | nil {o : Nat} : FR P [] o o fun as => as = []
  | cons {f : Field} {fs : List Field} {o o' n : Nat} {S S' : List AVal → Prop} : f.offset = o → P.cellsOf f.type = n → Reads P f.type S → FR P fs (o + n) o' S' → FR P (f :: fs) o o' fun as => ∃ a b, as = a ++ b ∧ S a ∧ S' b

theorem FR.get {fs : List Field} {o o' : Nat} {S : List AVal → Prop} (h : FR P fs o o' S) {H : Type} {enc : TypeId × Value → H} {w : World} {sp : Nat → Bool} {held : Bool} {n : Nat} {cs : List Value} {xs : List (DataW H × List MemPlace)} (hl : xs.length = fs.length) (hcs : cs.length = o')
    (hx : ∀ (i : Nat) (f : Field), fs[i]? = some f → DataW.trod enc P w 0 sp held n f.type ((cs.drop f.offset).take (P.cellsOf f.type)) = xs[i]?) : ∃ as, S as ∧ VS P nm0 (oldZ w) w as (cs.drop o) := by
  induction h generalizing xs with
  | nil => exact ⟨[], rfl, by rw [List.drop_eq_nil_of_le (by omega)]; simp [VS]⟩
  | @cons f fs o o' k S S' h1 h2 h3 h4 ih =>
    cases xs with
    | nil => simp at hl
    | cons x xs =>
      have hx0 := hx 0 f rfl
      simp only [List.getElem?_cons_zero] at hx0
      obtain ⟨a, ha, hva⟩ := h3 H enc w sp held n _ _ hx0
      obtain ⟨b, hb, hvb⟩ := ih (xs := xs) (by simpa using hl) hcs fun i g hg => by
        have := hx (i + 1) g (by simpa using hg)
        simpa using this
      refine ⟨a ++ b, ⟨a, b, rfl, ha, hb⟩, ?_⟩
      have := hva.append hvb
      rw [h1, h2] at this
      rw [← List.drop_drop, List.take_append_drop] at this
      exact this

theorem reads_struct {fs : Array Field} {n : Nat} (ht : P.underlying t = some (.struct fs)) (hn : P.cellsOf t = n) (hf : FR P fs.toList 0 n S) : Reads P t S := by
  intro H enc w sp held fuel cs x hx
  obtain ⟨xs, k, _, _, hl, hlen, hxs⟩ := DataW.trod_struct ht hx
  obtain ⟨as, h1, h2⟩ := hf.get (xs := xs) (by simpa using hlen) (hl.trans hn) fun i f hi => hxs i f (by simpa using hi)
  exact ⟨as, h1, by simpa using h2⟩

/-! ### a law's call -/
theorem law_calls {C : Cfg} (hext : C.ext = fun _ => none) (hN : Named C.P) (hm : C.P.follows .mixedOrders = true) {f : FuncId} {fn : Func} (hf : C.P.funcs[f]? = some fn) {args : List AVal} (hw : WF C 0 fn args [] [] fun v _ _ => v = .bool true)
    {w : World} {us : List Value} (hv : VS C.P nm0 (oldZ w) w args us) : Calls C.P f us.toArray w fun e' w' => e' = .returned (.bool true) ∧ Go.RowKit.Below w.heap.size w w' := by
  obtain ⟨_, v, h', L', rfl, N0, hN0⟩ := WF_ok hf hw
  have hE : ExtOK C := fun f g hg => by rw [hext] at hg; cases hg
  have hX : ExtFrame C := fun f g hg => by rw [hext] at hg; cases hg
  have r : HRel C.P nm0 (oldZ w) [] w := ⟨fun l blk e => by simp [hget] at e, fun l l' blk blk' b e => by simp [hget] at e, fun l blk b e => by simp [hget] at e, (fun l b e => by cases e), fun b hb => hb⟩
  refine ((runL_ok hE hX hN hm N0).fn 0 f args [] [] _ h' L' (hN0 N0 (Nat.le_refl _)) nm0 (oldZ w) w us r LRel.nil (Nat.le_refl _) hv).mono fun e' w' hl => ?_
  obtain ⟨u, m', Z', rfl, h1, _, _, _, h3⟩ := hl
  simp only [V] at h1
  subst h1
  have h4 := h3.noL
  exact ⟨rfl, h4.os, h4.tape, h4.output, h4.size, fun b hb => h4.fr b hb (fun l blk _ e => by simp [hget] at e) (fun h => h)⟩
end Go.Abs
