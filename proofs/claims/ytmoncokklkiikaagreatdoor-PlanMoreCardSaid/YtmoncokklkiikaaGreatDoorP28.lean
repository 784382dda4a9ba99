/- What a law's arguments are. What a law's arguments are: jobs. What a law's arguments are: rows of jobs. How long a row of jobs may be, as an argument. -/
import Derived.Test.YtmoncokklkiikaaGreatDoorP14
import Derived.Test.YtmoncokklkiikaaGreatDoorP16
import Derived.Test.YtmoncokklkiikaaGreatDoorTie
import Derived.Test.YtmoncokklkiikaaGreatDoorCards
import Derived.Test.YtmoncokklkiikaaGreatDoorP20
import Derived.Test.YtmoncokklkiikaaGreatDoorP22
import Derived.Test.YtmoncokklkiikaaGreatDoorP09
set_option linter.unusedSimpArgs false
set_option linter.unusedVariables false
set_option linter.unnecessarySimpa false
namespace Go.Proofs.YtmoncokklkiikaaGreatDoor
open Rg Go Go.RowKit
theorem laidOut : laidOutB Tryz.prog = true := by kernel_rfl
theorem fits_i64 {a : AV} (h : fits (.int .i64) a) : ∃ n : Int, a = .sc (.int .i64 n) ∧ -9223372036854775808 ≤ n ∧ n ≤ 9223372036854775807 := by
  simp only [fits] at h
  obtain ⟨n, rfl, h⟩ := h
  exact ⟨n, rfl, by simpa [Lit.wf, IntKind.min, IntKind.max, IntKind.bits, IntKind.signed] using h⟩
theorem fits_u64 {a : AV} (h : fits (.int .u64) a) : ∃ n : Nat, a = .sc (.int .u64 (n : Int)) ∧ n < 18446744073709551616 := by
  simp only [fits] at h
  obtain ⟨n, rfl, h⟩ := h
  have h2 : 0 ≤ n ∧ n ≤ 18446744073709551615 := by simpa [Lit.wf, IntKind.min, IntKind.max, IntKind.bits, IntKind.signed] using h
  obtain ⟨m, rfl⟩ := Int.eq_ofNat_of_zero_le h2.1
  exact ⟨m, rfl, by omega⟩
theorem fits_str {a : AV} (h : fits .str a) : ∃ s : List UInt8, a = str s ∧ s.length ≤ maxLen := by
  simp only [fits] at h
  obtain ⟨s, rfl, h⟩ := h
  refine ⟨s.data.toList, rfl, ?_⟩
  rw [Lib.size_eq] at h
  exact h
theorem bool_type : Tryz.prog.underlying 4 = some .bool := by kernel_rfl
end Go.Proofs.YtmoncokklkiikaaGreatDoor
namespace Go.Proofs.YtmoncokklkiikaaGreatDoor
open Rg Go
theorem fits_nats : ∀ {xs : List AV}, (∀ x ∈ xs, fits (.int .u64) x) → ∃ L : List Nat, xs = L.map fun n : Nat => (.sc (.int .u64 n) : AV)
  | [], _ => ⟨[], rfl⟩
  | x :: r, h => by
    obtain ⟨n, rfl, _⟩ := fits_u64 (h x (by simp))
    obtain ⟨L, rfl⟩ := fits_nats (xs := r) fun y hy => h y (List.mem_cons_of_mem _ hy)
    exact ⟨n :: L, rfl⟩
end Go.Proofs.YtmoncokklkiikaaGreatDoor
namespace Go.Proofs.YtmoncokklkiikaaGreatDoor
open Rg Go Go.RowKit
theorem fits_jobX {a : AV} (h : fits (.st [.int .u64, .str, .str, .int .i64, .int .i64, .int .i64, .int .i64, .int .i64, .sl (.int .u64), .bool, .int .u64, .int .i64]) a) : ∃ j : Jb, a = jbAV j .no ∧ j.ex.length ≤ 9223372036854775807 := by
  rw [fits] at h
  obtain ⟨cs, rfl, h⟩ := h
  simp only [fitsL] at h
  obtain ⟨a0, r0, rfl, h0, a1, r1, rfl, h1, a2, r2, rfl, h2, a3, r3, rfl, h3, a4, r4, rfl, h4, a5, r5, rfl, h5, a6, r6, rfl, h6, a7, r7, rfl, h7, a8, r8, rfl, h8, a9, r9, rfl, h9, a10, r10, rfl, h10, a11, r11, rfl, h11, rfl⟩ := h
  obtain ⟨id, rfl, _⟩ := fits_u64 h0
  obtain ⟨name, rfl, _⟩ := fits_str h1
  obtain ⟨ex, rfl, hex⟩ := fits_str h2
  obtain ⟨pol, rfl, _⟩ := fits_i64 h3
  obtain ⟨gr, rfl, _⟩ := fits_i64 h4
  obtain ⟨lim, rfl, _⟩ := fits_i64 h5
  obtain ⟨ret, rfl, _⟩ := fits_i64 h6
  obtain ⟨tim, rfl, _⟩ := fits_i64 h7
  rw [fits] at h8
  obtain ⟨xs, rfl, _, h8⟩ := h8
  obtain ⟨deps, rfl⟩ := fits_nats h8
  rw [fits] at h9
  obtain ⟨pau, rfl⟩ := h9
  obtain ⟨ver, rfl, _⟩ := fits_u64 h10
  obtain ⟨seen, rfl, _⟩ := fits_i64 h11
  exact ⟨⟨id, name, ex, pol, gr, lim, ret, tim, deps, pau, ver, seen⟩, rfl, by simpa [maxLen] using hex⟩
theorem fits_jobsL : ∀ {xs : List AV}, (∀ x ∈ xs, fits (.st [.int .u64, .str, .str, .int .i64, .int .i64, .int .i64, .int .i64, .int .i64, .sl (.int .u64), .bool, .int .u64, .int .i64]) x) → ∃ js : List Jb, xs = jobsAV js ∧ ∀ j ∈ js, j.ex.length ≤ 9223372036854775807
  | [], _ => ⟨[], rfl, by simp⟩
  | x :: r, h => by
    obtain ⟨j, rfl, hj⟩ := fits_jobX (h x (by simp))
    obtain ⟨L, rfl, hL⟩ := fits_jobsL (xs := r) fun y hy => h y (List.mem_cons_of_mem _ hy)
    exact ⟨j :: L, rfl, fun m hm => by
      rcases List.mem_cons.1 hm with e | hm
      · rw [e]; exact hj
      · exact hL m hm⟩
theorem fits_jobs {a : AV} (h : fits (.sl (.st [.int .u64, .str, .str, .int .i64, .int .i64, .int .i64, .int .i64, .int .i64, .sl (.int .u64), .bool, .int .u64, .int .i64])) a) : ∃ js : List Jb, a = .sl (jobsAV js) .no ∧ js.length ≤ 9223372036854775807 ∧ ∀ j ∈ js, j.ex.length ≤ 9223372036854775807 := by
  rw [fits] at h
  obtain ⟨xs, rfl, h1, h2⟩ := h
  obtain ⟨L, rfl, hL⟩ := fits_jobsL h2
  exact ⟨L, rfl, by simpa [maxLen] using h1, hL⟩
end Go.Proofs.YtmoncokklkiikaaGreatDoor
namespace Go.Proofs.YtmoncokklkiikaaGreatDoor
open Rg Go Go.RowKit Go.ChangeShapes
theorem jobsT : Tryz.prog.underlying 95 = some (.slice 25) := by kernel_rfl
theorem jobB : Tryz.prog.bytesOf 25 = 128 := by kernel_rfl
theorem jobs_bound {H : Type} {enc : TypeId × Value → H} {fn : Func} {s : ChangeSpec} {W : World} {args : Array Value} {ts : List TypeId} (hts : fn.params.toList = 95 :: ts) (h : SizedIn enc Tryz.prog fn s false W args) {js : List Jb} {r : List AV} (hr : RelL (comOf W) (.sl (jobsAV js) .no :: r) args.toList) : js.length ≤ 1099511627744 := by
  obtain ⟨ds, gs, before, ⟨p, q, hA, _⟩, hw⟩ := h
  rw [hts] at hA hw
  obtain ⟨v, vs', d, ds', a, b, e1, rfl, _, h1, h2⟩ := trodAll_cons hA
  rw [e1] at hr
  obtain ⟨v', vs'', e2, hv, _⟩ := hr.uncons
  cases e2
  obtain ⟨fuel, hf⟩ := h1
  obtain ⟨sa, sc, hsl, _, _⟩ := hv.sl_form
  subst hsl
  rw [List.cons_append, List.cons_append, DataW.weightsEach] at hw
  simp only [List.all_append, Bool.and_eq_true] at hw
  have hw1 := hw.1
  rcases DataW.trod_slice jobsT hf with ⟨h3, _⟩ | ⟨a', len, cap, elems, rest, m, hm, h3, h4, _, _, _, hel, _, _, _⟩
  · have h3 : [Value.slice sa (jobsAV js).length sc] = [Value.slice none 0 0] := h3
    simp at h3
    rw [h3.2.1]
    simp
  · have h3 : [Value.slice sa (jobsAV js).length sc] = [Value.slice (some a') len cap] := h3
    simp only [List.cons.injEq, Value.slice.injEq, and_true] at h3
    rw [Prod.mk.injEq] at h4
    rw [h4.1, DataW.weights.eq_def] at hw1
    simp only [jobsT] at hw1
    simp only [List.all_cons, Bool.and_eq_true, decide_eq_true_eq, List.length_map, jobB] at hw1
    have := hw1.1
    rw [List.length_map] at h3
    unfold reachBytes at this
    omega
end Go.Proofs.YtmoncokklkiikaaGreatDoor
