/-
  How the machine of values stands to the model: a value to a value, a heap to a heap; and what a step may turn.
-/
import Derived.Test.YtcdjkpppfghkpaaAbsCore
namespace Go.Abs
open Go

/-- no names -/
def nm0 : Nat → Option Nat := fun _ => none

mutual
def V (P : Program) (m : Nat → Option Nat) (Z : Nat → Prop) (w : World) : AVal → Value → Prop
  | .undef, v => v = Go.undef
  | .bool b, v => v = .bool b
  | .int k n, v => v = .int k n
  | .str s, v => v = .string ⟨s.toArray⟩
  | .ptr none, v => v = .pointer none
  | .ptr (some (l, o)), v => ∃ b, m l = some b ∧ v = .pointer (some ⟨b, o, none⟩)
  | .cref cells, v => ∃ b o, v = .pointer (some ⟨b, o, none⟩) ∧ Z b ∧ VC P nm0 Z w cells b o
  | .own l off len cap, v => ∃ b a cp, m l = some b ∧ v = .slice (some a) len cp ∧ len ≤ cp ∧ (cp ≠ 0 → a = ⟨b, off, none⟩) ∧
      (∀ c, cap = some c → cp = c) ∧ (cap = none → off = 0 → ∃ e k, w.shape? b = some (e, k) ∧ cp * P.cellsOf e ≤ k)
  | .lst isNil xs, v => ∃ base cp, v = .slice base xs.length cp ∧ xs.length ≤ cp ∧ base.isNone = isNil ∧ (isNil = true → xs = [] ∧ cp = 0) ∧
      (xs ≠ [] → ∃ b o sz, base = some ⟨b, o, none⟩ ∧ Z b ∧ VR P nm0 Z w sz xs b o)
  | .func f first cap, v => ∃ fs cs : List Value, v = .func (.func f) fs.toArray cs.toArray ∧ VS P m Z w first fs ∧ VS P m Z w cap cs
  | .nilFunc, v => v = .nilFunc
  | .yld l, v => ∃ b, m l = some b ∧ v = .func (.yield b) #[] #[]
  | .agg cells, v => ∃ cs : List Value, v = .agg cs.toArray ∧ VS P m Z w cells cs
  | .tup vs, v => ∃ cs : List Value, v = .tuple cs.toArray ∧ VS P m Z w vs cs
def VS (P : Program) (m : Nat → Option Nat) (Z : Nat → Prop) (w : World) : List AVal → List Value → Prop
  | [], vs => vs = []
  | a :: as, vs => ∃ v vs', vs = v :: vs' ∧ V P m Z w a v ∧ VS P m Z w as vs'
def VC (P : Program) (m : Nat → Option Nat) (Z : Nat → Prop) (w : World) : List AVal → Nat → Nat → Prop
  | [], _, _ => True
  | a :: as, b, o => (∃ u, w.cell? ⟨b, o, none⟩ = some u ∧ V P m Z w a u) ∧ VC P m Z w as b (o + 1)
def VR (P : Program) (m : Nat → Option Nat) (Z : Nat → Prop) (w : World) (sz : Nat) : List (List AVal) → Nat → Nat → Prop
  | [], _, _ => True
  | c :: cs, b, o => c.length = sz ∧ VC P m Z w c b o ∧ VR P m Z w sz cs b (o + sz)
end

/-- a world behind a step: what a step never turns (the rows of Z; shapes) -/
structure Stays (m : Nat → Option Nat) (Z : Nat → Prop) (w : World) (m' : Nat → Option Nat) (Z' : Nat → Prop) (w' : World) : Prop where
  mm : ∀ l b, m l = some b → m' l = some b
  zz : ∀ b, Z b → Z' b
  zc : ∀ b o, Z b → w'.cell? ⟨b, o, none⟩ = w.cell? ⟨b, o, none⟩
  shp : ∀ b x, w.shape? b = some x → w'.shape? b = some x

variable {P : Program} {m m' : Nat → Option Nat} {Z Z' : Nat → Prop} {w w' : World}

theorem Stays.nm0 (h : Stays m Z w m' Z' w') : Stays nm0 Z w nm0 Z' w' := ⟨(fun _ _ e => by cases e), h.zz, h.zc, h.shp⟩
theorem Stays.wide (m : Nat → Option Nat) (Z : Nat → Prop) (w : World) : Stays Go.Abs.nm0 Z w m Z w := ⟨(fun _ _ e => by cases e), fun _ z => z, fun _ _ _ => rfl, fun _ _ e => e⟩

mutual
theorem V.stays {m m' : Nat → Option Nat} (h : Stays m Z w m' Z' w') : ∀ {a : AVal} {v : Value}, V P m Z w a v → V P m' Z' w' a v
  | .undef, v, hv => by simpa only [V] using hv
  | .bool b, v, hv => by simpa only [V] using hv
  | .int k n, v, hv => by simpa only [V] using hv
  | .str s, v, hv => by simpa only [V] using hv
  | .ptr none, v, hv => by simpa only [V] using hv
  | .ptr (some (l, o)), v, hv => by
    simp only [V] at hv ⊢
    obtain ⟨b, hb, rfl⟩ := hv
    exact ⟨b, h.mm _ _ hb, rfl⟩
  | .cref cells, v, hv => by
    simp only [V] at hv ⊢
    obtain ⟨b, o, rfl, hz, hc⟩ := hv
    exact ⟨b, o, rfl, h.zz _ hz, VC.stays h.nm0 hz hc⟩
  | .own l off len cap, v, hv => by
    simp only [V] at hv ⊢
    obtain ⟨b, a, cp, hb, rfl, h1, h2, h3, h4⟩ := hv
    refine ⟨b, a, cp, h.mm _ _ hb, rfl, h1, h2, h3, fun hc ho => ?_⟩
    obtain ⟨e, k, he, hk⟩ := h4 hc ho
    exact ⟨e, k, h.shp _ _ he, hk⟩
  | .lst isNil xs, v, hv => by
    simp only [V] at hv ⊢
    obtain ⟨base, cp, rfl, h1, h2, h3, h4⟩ := hv
    refine ⟨base, cp, rfl, h1, h2, h3, fun hne => ?_⟩
    obtain ⟨b, o, sz, rfl, hz, hr⟩ := h4 hne
    exact ⟨b, o, sz, rfl, h.zz _ hz, VR.stays h.nm0 hz hr⟩
  | .func f first cap, v, hv => by
    simp only [V] at hv ⊢
    obtain ⟨fs, cs, rfl, h1, h2⟩ := hv
    exact ⟨fs, cs, rfl, VS.stays h h1, VS.stays h h2⟩
  | .nilFunc, v, hv => by simpa only [V] using hv
  | .yld l, v, hv => by
    simp only [V] at hv ⊢
    obtain ⟨b, hb, rfl⟩ := hv
    exact ⟨b, h.mm _ _ hb, rfl⟩
  | .agg cells, v, hv => by
    simp only [V] at hv ⊢
    obtain ⟨cs, rfl, h1⟩ := hv
    exact ⟨cs, rfl, VS.stays h h1⟩
  | .tup cells, v, hv => by
    simp only [V] at hv ⊢
    obtain ⟨cs, rfl, h1⟩ := hv
    exact ⟨cs, rfl, VS.stays h h1⟩
theorem VS.stays {m m' : Nat → Option Nat} (h : Stays m Z w m' Z' w') : ∀ {as : List AVal} {vs : List Value}, VS P m Z w as vs → VS P m' Z' w' as vs
  | [], vs, hv => by simpa only [VS] using hv
  | a :: as, vs, hv => by
    simp only [VS] at hv ⊢
    obtain ⟨v, vs', rfl, h1, h2⟩ := hv
    exact ⟨v, vs', rfl, V.stays h h1, VS.stays h h2⟩
theorem VC.stays {m m' : Nat → Option Nat} (h : Stays m Z w m' Z' w') : ∀ {as : List AVal} {b o : Nat}, Z b → VC P m Z w as b o → VC P m' Z' w' as b o
  | [], b, o, hz, hv => by simp only [VC]
  | a :: as, b, o, hz, hv => by
    simp only [VC] at hv ⊢
    obtain ⟨⟨u, h1, h2⟩, h3⟩ := hv
    exact ⟨⟨u, (h.zc b o hz).trans h1, V.stays h h2⟩, VC.stays h hz h3⟩
theorem VR.stays {m m' : Nat → Option Nat} (h : Stays m Z w m' Z' w') {sz : Nat} : ∀ {xs : List (List AVal)} {b o : Nat}, Z b → VR P m Z w sz xs b o → VR P m' Z' w' sz xs b o
  | [], b, o, hz, hv => by simp only [VR]
  | c :: cs, b, o, hz, hv => by
    simp only [VR] at hv ⊢
    obtain ⟨h1, h2, h3⟩ := hv
    exact ⟨h1, VC.stays h hz h2, VR.stays h hz h3⟩
end

theorem V.wide {a : AVal} {v : Value} (hv : V P nm0 Z w a v) : V P m Z w a v := V.stays (Stays.wide m Z w) hv
theorem VS.wide {a : List AVal} {v : List Value} (hv : VS P nm0 Z w a v) : VS P m Z w a v := VS.stays (Stays.wide m Z w) hv
end Go.Abs
