/- What a law's arguments are. What a law's arguments are: jobs. What a law's arguments are: calls on a table. -/
import Derived.Test.YtlhgpodfhdddkaaGreatDoorP14
import Derived.Test.YtlhgpodfhdddkaaGreatDoorP30
import Derived.Test.YtlhgpodfhdddkaaGreatDoorTie
import Derived.Test.YtlhgpodfhdddkaaGreatDoorCards
import Derived.Test.YtlhgpodfhdddkaaGreatDoorP18
import Derived.Test.YtlhgpodfhdddkaaGreatDoorP28
set_option linter.unusedSimpArgs false
set_option linter.unusedVariables false
set_option linter.unnecessarySimpa false
namespace Go.Proofs.YtlhgpodfhdddkaaGreatDoor
open Rg Go Go.RowKit
theorem laidOut : laidOutB Tryz.prog = true := by kernel_rfl
theorem fits_i64 {a : AV} (h : fits (.int .i64) a) : ∃ n : Int, a = .sc (.int .i64 n) ∧ -9223372036854775808 ≤ n ∧ n ≤ 9223372036854775807 := by
  simp only [fits] at h
  obtain ⟨n, rfl, h⟩ := h
  exact ⟨n, rfl, by simpa [Lit.wf, IntKind.min, IntKind.max, IntKind.bits, IntKind.signed] using h⟩
theorem fits_u64 {a : AV} (h : fits (.int .u64) a) : ∃ n : Nat, a = .sc (.int .u64 (n : Int)) ∧ n < 18446744073709551616 := by
  simp only [fits] at h
  obtain ⟨n, rfl, h⟩ := h
  have h2 : 0 ≤ n ∧ n ≤ 18446744073709551615 := by simpa [Lit.wf, IntKind.min, IntKind.max, IntKind.bits, IntKind.signed] using h
  obtain ⟨m, rfl⟩ := Int.eq_ofNat_of_zero_le h2.1
  exact ⟨m, rfl, by omega⟩
theorem fits_str {a : AV} (h : fits .str a) : ∃ s : List UInt8, a = str s ∧ s.length ≤ maxLen := by
  simp only [fits] at h
  obtain ⟨s, rfl, h⟩ := h
  refine ⟨s.data.toList, rfl, ?_⟩
  rw [Lib.size_eq] at h
  exact h
theorem bool_type : Tryz.prog.underlying 4 = some .bool := by kernel_rfl
end Go.Proofs.YtlhgpodfhdddkaaGreatDoor
namespace Go.Proofs.YtlhgpodfhdddkaaGreatDoor
open Rg Go
theorem fits_nats : ∀ {xs : List AV}, (∀ x ∈ xs, fits (.int .u64) x) → ∃ L : List Nat, xs = L.map fun n : Nat => (.sc (.int .u64 n) : AV)
  | [], _ => ⟨[], rfl⟩
  | x :: r, h => by
    obtain ⟨n, rfl, _⟩ := fits_u64 (h x (by simp))
    obtain ⟨L, rfl⟩ := fits_nats (xs := r) fun y hy => h y (List.mem_cons_of_mem _ hy)
    exact ⟨n :: L, rfl⟩
end Go.Proofs.YtlhgpodfhdddkaaGreatDoor
namespace Go.Proofs.YtlhgpodfhdddkaaGreatDoor
open Rg Go Go.RowKit
theorem fits_jobO {a : AV} (h : fits (.st [.int .u64, .str, .str, .int .i64, .int .i64, .int .i64, .int .i64, .int .i64, .sl (.int .u64), .bool, .int .u64, .int .i64]) a) : ∃ j : Jb, a = jbAV j .no ∧ j.ex.length ≤ 9223372036854775807 := by
  rw [fits] at h
  obtain ⟨cs, rfl, h⟩ := h
  simp only [fitsL] at h
  obtain ⟨a0, r0, rfl, h0, a1, r1, rfl, h1, a2, r2, rfl, h2, a3, r3, rfl, h3, a4, r4, rfl, h4, a5, r5, rfl, h5, a6, r6, rfl, h6, a7, r7, rfl, h7, a8, r8, rfl, h8, a9, r9, rfl, h9, a10, r10, rfl, h10, a11, r11, rfl, h11, rfl⟩ := h
  obtain ⟨id, rfl, _⟩ := fits_u64 h0
  obtain ⟨name, rfl, _⟩ := fits_str h1
  obtain ⟨ex, rfl, hex⟩ := fits_str h2
  obtain ⟨pol, rfl, _⟩ := fits_i64 h3
  obtain ⟨gr, rfl, _⟩ := fits_i64 h4
  obtain ⟨lim, rfl, _⟩ := fits_i64 h5
  obtain ⟨ret, rfl, _⟩ := fits_i64 h6
  obtain ⟨tim, rfl, _⟩ := fits_i64 h7
  rw [fits] at h8
  obtain ⟨xs, rfl, _, h8⟩ := h8
  obtain ⟨deps, rfl⟩ := fits_nats h8
  rw [fits] at h9
  obtain ⟨pau, rfl⟩ := h9
  obtain ⟨ver, rfl, _⟩ := fits_u64 h10
  obtain ⟨seen, rfl, _⟩ := fits_i64 h11
  exact ⟨⟨id, name, ex, pol, gr, lim, ret, tim, deps, pau, ver, seen⟩, rfl, by simpa [maxLen] using hex⟩
theorem fits_op {a : AV} (h : fits (.st [.int .i64, .int .u64, .st [.int .u64, .str, .str, .int .i64, .int .i64, .int .i64, .int .i64, .int .i64, .sl (.int .u64), .bool, .int .u64, .int .i64], .bool, .int .i64]) a) : ∃ o : Op15, a = opAV o ∧ o.job.ex.length ≤ 9223372036854775807 := by
  rw [fits] at h
  obtain ⟨cs, rfl, h⟩ := h
  simp only [fitsL] at h
  obtain ⟨a0, r0, rfl, h0, a1, r1, rfl, h1, a2, r2, rfl, h2, a3, r3, rfl, h3, a4, r4, rfl, h4, rfl⟩ := h
  obtain ⟨k, rfl, _⟩ := fits_i64 h0
  obtain ⟨id, rfl, _⟩ := fits_u64 h1
  obtain ⟨j, rfl, hj⟩ := fits_jobO h2
  rw [fits] at h3
  obtain ⟨p, rfl⟩ := h3
  obtain ⟨s, rfl, _⟩ := fits_i64 h4
  exact ⟨⟨k, id, j, p, s⟩, rfl, hj⟩
theorem fits_opsL : ∀ {xs : List AV}, (∀ x ∈ xs, fits (.st [.int .i64, .int .u64, .st [.int .u64, .str, .str, .int .i64, .int .i64, .int .i64, .int .i64, .int .i64, .sl (.int .u64), .bool, .int .u64, .int .i64], .bool, .int .i64]) x) → ∃ l : List Op15, xs = opsAV l ∧ ∀ o ∈ l, o.job.ex.length ≤ 9223372036854775807
  | [], _ => ⟨[], rfl, by simp⟩
  | x :: r, h => by
    obtain ⟨o, rfl, ho⟩ := fits_op (h x (by simp))
    obtain ⟨L, rfl, hL⟩ := fits_opsL (xs := r) fun y hy => h y (List.mem_cons_of_mem _ hy)
    exact ⟨o :: L, rfl, fun m hm => by
      rcases List.mem_cons.1 hm with e | hm
      · rw [e]; exact ho
      · exact hL m hm⟩
theorem fits_ops {a : AV} (h : fits (.sl (.st [.int .i64, .int .u64, .st [.int .u64, .str, .str, .int .i64, .int .i64, .int .i64, .int .i64, .int .i64, .sl (.int .u64), .bool, .int .u64, .int .i64], .bool, .int .i64])) a) : ∃ l : List Op15, a = .sl (opsAV l) .no ∧ ∀ o ∈ l, o.job.ex.length ≤ 9223372036854775807 := by
  rw [fits] at h
  obtain ⟨xs, rfl, _, h2⟩ := h
  obtain ⟨L, rfl, hL⟩ := fits_opsL h2
  exact ⟨L, rfl, hL⟩
end Go.Proofs.YtlhgpodfhdddkaaGreatDoor
