/-
  What is proved: at every input DiskPlays returns true, and its arguments read behind the call as they read before.
  Conditions: none, beyond the statement's own.
-/
import Derived.Test.YtcdjkpppfghkpaaRows
import Derived.Test.YtcdjkpppfghkpaaDiskP
import Derived.Test.YtcdjkpppfghkpaaAbsT
import Derived.WalkKit
import Derived.ProofKit
import Derived.OpenShut
import Derived.ShutString
import Derived.ChangeOld
import Derived.Below
import Derived.SizedLaws
import Derived.KernelRfl
set_option linter.unusedVariables false
set_option linter.unusedSimpArgs false
namespace Go.Proofs.Ytcdjkpppfghkpaa
open Go Go.Abs Go.ChangeShapes Go.WideShapes Go.ChangeAt Go.RowKit

theorem Try.own : ownKnob Try.prog.godebug = none := by kernel_rfl
theorem Try.laidOut : laidOutB Try.prog = true := by kernel_rfl
theorem Try.mixed : Try.prog.follows .mixedOrders = true := by kernel_rfl
theorem Try.named0 : Try.prog.funcs.all (fun fn => !(fn.body.isSome && (fn.name == "runtime.NumGoroutine"))) = true := by kernel_rfl
theorem Try.named : Named CD.P := by
  intro f fn hf hb
  have h := Array.all_eq_true_iff_forall_mem.1 Try.named0 fn (Array.mem_of_getElem? hf)
  rw [hb] at h
  simpa using h

/-- the acts, as the reader of data has them -/
theorem reads_act : Reads CD.P 36 fun cs => ∃ a : ActD, cs = a.cells ∧ ActRd a := by
  have h3 : Reads CD.P 3 _ := reads_int (k := .i64) Try.underlying3
  have h5 : Reads CD.P 5 _ := reads_int (k := .u8) Try.underlying5
  have h34 : Reads CD.P 34 _ := reads_slice Try.underlying34 (n := 1) (by kernel_rfl) (by omega) h5
  refine (reads_struct (n := 4) Try.underlying36 (by kernel_rfl) (.cons rfl (n := 1) (by kernel_rfl) h3 (.cons rfl (n := 1) (by kernel_rfl) h3 (.cons rfl (n := 1) (by kernel_rfl) h3 (.cons rfl (n := 1) (by kernel_rfl) h34 .nil))))).mono ?_
  rintro cs ⟨_, _, rfl, ⟨a, rfl, ha⟩, _, _, rfl, ⟨b, rfl, hb⟩, _, _, rfl, ⟨c, rfl, hc⟩, _, _, rfl, ⟨nil, xs, rfl, hn, hx, hlx⟩, rfl⟩
  obtain ⟨bs, rfl⟩ : ∃ bs : List UInt8, xs = bs.map fun b => [ofByte b] := by
    clear hn hlx
    induction xs with
    | nil => exact ⟨[], rfl⟩
    | cons x xs ih =>
      obtain ⟨bs, rfl⟩ := ih fun y hy => hx y (List.mem_cons_of_mem _ hy)
      obtain ⟨n, rfl, hw⟩ := hx x (List.mem_cons_self ..)
      simp only [Lit.wf, Bool.and_eq_true] at hw
      obtain ⟨w1, w2⟩ := hw
      refine ⟨UInt8.ofNat n.toNat :: bs, ?_⟩
      simp only [List.map_cons, ofByte, UInt8.toNat_ofNat']
      congr 3
      have : n ≤ 255 := of_decide_eq_true w2
      have : 0 ≤ n := of_decide_eq_true w1
      omega
  refine ⟨⟨a, b, c, nil, bs⟩, rfl, fun h => by have := hn h; simpa using this, ?_⟩
  simp only [Lit.wf, Bool.and_eq_true] at hb
  have : b ≤ 9223372036854775807 := of_decide_eq_true hb.2
  show b < 9223372036854775808
  omega

theorem acts_of {xs : List (List AVal)} (h : ∀ x, x ∈ xs → ∃ a : ActD, x = a.cells ∧ ActRd a) : ∃ l : List ActD, xs = l.map ActD.cells ∧ ∀ a, a ∈ l → ActRd a := by
  induction xs with
  | nil => exact ⟨[], rfl, fun a ha => by cases ha⟩
  | cons x xs ih =>
    obtain ⟨l, rfl, h1⟩ := ih fun y hy => h y (List.mem_cons_of_mem _ hy)
    obtain ⟨a, rfl, h2⟩ := h x (List.mem_cons_self ..)
    refine ⟨a :: l, rfl, fun b hb => ?_⟩
    rcases List.mem_cons.1 hb with rfl | hb
    · exact h2
    · exact h1 b hb

theorem reads_acts : Reads CD.P 22 fun cs => ∃ b, ∃ l : List ActD, cs = [.lst b (l.map ActD.cells)] ∧ (b = true → l = []) ∧ (∀ a, a ∈ l → ActRd a) ∧ l.length < 9223372036854775808 := by
  refine (reads_slice Try.underlying22 (n := 4) (by kernel_rfl) (by omega) reads_act).mono ?_
  rintro cs ⟨b, xs, rfl, h1, h2, h3⟩
  obtain ⟨l, rfl, h4⟩ := acts_of h2
  have : maxLen = 9223372036854775807 := rfl
  refine ⟨b, l, rfl, fun h => by have := h1 h; simpa using this, h4, ?_⟩
  rw [List.length_map] at h3
  omega

theorem reads_num : Reads CD.P 3 fun cs => ∃ n, cs = [.int .i64 n] ∧ (Lit.int .i64 n).wf = true := reads_int Try.underlying3

namespace diskPlays
set_option maxRecDepth 100000 in
theorem lifted (os : Os) (started : os.Started) (H : Type) (enc : TypeId × Value → H) :
    ReturnsInHanded {} Try.checked os 3 .any (Rows.diskPlaysSpec.pre6 enc Try.prog Try.f3 Rows.diskPlaysRow.domain false) (Rows.diskPlaysSpec.post enc Try.prog Try.f3 false true false false) := by
  refine returnsInHanded_of_change_sized (C := Try.checked) Try.own started (by kernel_rfl) Try.func3
    (ChangeSpec.witness6 (enc := enc) (C := Try.checked) false ⟨#[], #[.int .i64 0, .slice Option.none 0 0], []⟩ 8 (by kernel_rfl) (by kernel_rfl) (by kernel_rfl) (by kernel_rfl)) ?_
  intro W base args ds gs before hval0 hW hcnd hsz0 _
  have hval : ∀ (j : Nat) t v, Try.f3.params[j]? = some t → args[j]? = some v → Value.okWide Try.prog W .any base t v := hval0
  have hW' := hW
  obtain ⟨p, q, hA0, hV, rfl, hfz, hnd⟩ := hW
  have hA : DataW.TrodAll enc Try.prog W 0 (fun _ => true) true Try.f3.params.toList args.toList ds p := hA0
  rw [Try.params3] at hA hval
  obtain ⟨v0, vs0, d0, ds0, p0, q0, hargs, rfl, rfl, h0, r0⟩ := trodAll_cons hA
  obtain ⟨v1, vs1, d1, ds1, p1, q1, rfl, rfl, rfl, h1, r1⟩ := trodAll_cons r0
  obtain ⟨rfl, rfl, rfl⟩ := trodAll_nil r1
  obtain rfl : args = #[v0, v1] := by cases args; simp_all
  obtain ⟨rfl, rfl⟩ := trodVars_none hV
  obtain ⟨n0, rfl⟩ := okWide_int Try.underlying3 (hval 0 3 v0 rfl rfl)
  obtain ⟨a1, len1, cap1, rfl⟩ := okWide_slice Try.underlying22 (hval 1 22 v1 rfl rfl)
  have lt0 : ∀ x ∈ p0, x.block < W.heap.size := by obtain ⟨m, hm⟩ := h0; exact DataW.trod_lt m _ _ _ hm
  have lt1 : ∀ x ∈ p1, x.block < W.heap.size := by obtain ⟨m, hm⟩ := h1; exact DataW.trod_lt m _ _ _ hm
  obtain ⟨m0, hm0⟩ := id h0
  obtain ⟨m1, hm1⟩ := id h1
  obtain ⟨as0, ⟨n, rfl, hn⟩, hv0⟩ := reads_num H enc W _ _ m0 _ _ hm0
  obtain ⟨as1, ⟨b, l, rfl, hb, hl, hlen⟩, hv1⟩ := reads_acts H enc W _ _ m1 _ _ hm1
  have hv := VS.append hv0 hv1
  refine (law_calls (C := CD) rfl Try.named Try.mixed Try.func3 (plays_ok (n := n) hb hl hlen fun h' => rfl) (us := [.int .i64 n0, .slice a1 len1 cap1]) hv).mono fun e W' ⟨he, bel⟩ => ?_
  subst he
  exact ⟨_, rfl, _, _, _, [], _, [], hW', trodAll_mk1 (shut_bool (Try.underlying4) _), trodAll_cons_mk (Below.trod Try.laidOut (by kernel_rfl) (of_decide_eq_true (by kernel_rfl)) h0 bel lt0)
    (trodAll_cons_mk (Below.trod Try.laidOut (by kernel_rfl) (of_decide_eq_true (by kernel_rfl)) h1 bel lt1) trodAll_mk0), rfl, bel.frame _, fun h => by cases h⟩

theorem over : Rows.diskPlaysRow.holds Try.pinned (OpenSpec.ofChange Rows.diskPlaysSpec) :=
  OpenClaim.holds_of_wide 3 Try.f3 rfl rfl rfl rfl rfl rfl rfl ⟨rfl, rfl, rfl, rfl, rfl⟩ rfl rfl rfl rfl rfl (by kernel_rfl) Try.func3 (by kernel_rfl)
    (of_decide_eq_true (by kernel_rfl)) (by unfold Func.isWrapper; first | (rw [if_pos (by decide +kernel)]; kernel_rfl) | (rw [if_neg (by decide +kernel)]; exact ⟨rfl, rfl⟩))
    (fun os started H enc _ => lifted os started H enc)
end diskPlays
theorem diskPlays_holds : Rows.DiskPlaysSaid := diskPlays.over
end Go.Proofs.Ytcdjkpppfghkpaa
