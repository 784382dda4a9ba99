/- What a law's arguments are. What a law's arguments are: jobs with their bounds, rows of bytes. What a law's arguments are: parts. -/
import Derived.Test.YtghlkjkdejebnaaGreatDoorP13
import Derived.Test.YtghlkjkdejebnaaGreatDoorP26
import Derived.Test.YtghlkjkdejebnaaGreatDoorTie
import Derived.Test.YtghlkjkdejebnaaGreatDoorCards
import Derived.Test.YtghlkjkdejebnaaGreatDoorP18
import Derived.Test.YtghlkjkdejebnaaGreatDoorP22
set_option linter.unusedSimpArgs false
set_option linter.unusedVariables false
set_option linter.unnecessarySimpa false
namespace Go.Proofs.YtghlkjkdejebnaaGreatDoor
open Rg Go Go.RowKit
theorem laidOut : laidOutB Tryz.prog = true := by kernel_rfl
theorem fits_i64 {a : AV} (h : fits (.int .i64) a) : ∃ n : Int, a = .sc (.int .i64 n) ∧ -9223372036854775808 ≤ n ∧ n ≤ 9223372036854775807 := by
  simp only [fits] at h
  obtain ⟨n, rfl, h⟩ := h
  exact ⟨n, rfl, by simpa [Lit.wf, IntKind.min, IntKind.max, IntKind.bits, IntKind.signed] using h⟩
theorem fits_u64 {a : AV} (h : fits (.int .u64) a) : ∃ n : Nat, a = .sc (.int .u64 (n : Int)) ∧ n < 18446744073709551616 := by
  simp only [fits] at h
  obtain ⟨n, rfl, h⟩ := h
  have h2 : 0 ≤ n ∧ n ≤ 18446744073709551615 := by simpa [Lit.wf, IntKind.min, IntKind.max, IntKind.bits, IntKind.signed] using h
  obtain ⟨m, rfl⟩ := Int.eq_ofNat_of_zero_le h2.1
  exact ⟨m, rfl, by omega⟩
theorem fits_str {a : AV} (h : fits .str a) : ∃ s : List UInt8, a = str s ∧ s.length ≤ maxLen := by
  simp only [fits] at h
  obtain ⟨s, rfl, h⟩ := h
  refine ⟨s.data.toList, rfl, ?_⟩
  rw [Lib.size_eq] at h
  exact h
theorem bool_type : Tryz.prog.underlying 4 = some .bool := by kernel_rfl
end Go.Proofs.YtghlkjkdejebnaaGreatDoor
namespace Go.Proofs.YtghlkjkdejebnaaGreatDoor
open Rg Go Go.RowKit
theorem fits_natsB : ∀ {xs : List AV}, (∀ x ∈ xs, fits (.int .u64) x) → ∃ L : List Nat, xs = (L.map fun n : Nat => (.sc (.int .u64 n) : AV)) ∧ ∀ n ∈ L, n < 18446744073709551616
  | [], _ => ⟨[], rfl, by simp⟩
  | x :: r, h => by
    obtain ⟨n, rfl, hn⟩ := fits_u64 (h x (by simp))
    obtain ⟨L, rfl, hL⟩ := fits_natsB (xs := r) fun y hy => h y (List.mem_cons_of_mem _ hy)
    exact ⟨n :: L, rfl, fun m hm => by
      rcases List.mem_cons.1 hm with e | hm
      · rw [e]; exact hn
      · exact hL m hm⟩
theorem fits_jobk {a : AV} (h : fits (.st [.int .u64, .str, .str, .int .i64, .int .i64, .int .i64, .int .i64, .int .i64, .sl (.int .u64), .bool, .int .u64, .int .i64]) a) : ∃ j : Jb, a = jbAV j .no ∧ JbOk j := by
  rw [fits] at h
  obtain ⟨cs, rfl, h⟩ := h
  simp only [fitsL] at h
  obtain ⟨a0, r0, rfl, h0, a1, r1, rfl, h1, a2, r2, rfl, h2, a3, r3, rfl, h3, a4, r4, rfl, h4, a5, r5, rfl, h5, a6, r6, rfl, h6, a7, r7, rfl, h7, a8, r8, rfl, h8, a9, r9, rfl, h9, a10, r10, rfl, h10, a11, r11, rfl, h11, rfl⟩ := h
  obtain ⟨id, rfl, hid⟩ := fits_u64 h0
  obtain ⟨name, rfl, _⟩ := fits_str h1
  obtain ⟨ex, rfl, _⟩ := fits_str h2
  obtain ⟨pol, rfl, _⟩ := fits_i64 h3
  obtain ⟨gr, rfl, _⟩ := fits_i64 h4
  obtain ⟨lim, rfl, _⟩ := fits_i64 h5
  obtain ⟨ret, rfl, _⟩ := fits_i64 h6
  obtain ⟨tim, rfl, _⟩ := fits_i64 h7
  rw [fits] at h8
  obtain ⟨xs, rfl, _, h8⟩ := h8
  obtain ⟨deps, rfl, hdeps⟩ := fits_natsB h8
  rw [fits] at h9
  obtain ⟨pau, rfl⟩ := h9
  obtain ⟨ver, rfl, hver⟩ := fits_u64 h10
  obtain ⟨seen, rfl, _⟩ := fits_i64 h11
  exact ⟨⟨id, name, ex, pol, gr, lim, ret, tim, deps, pau, ver, seen⟩, rfl, ⟨hid, hver, hdeps⟩⟩
theorem fits_u8s : ∀ {xs : List AV}, (∀ x ∈ xs, fits (.int .u8) x) → ∃ L : List UInt8, xs = u8s L
  | [], _ => ⟨[], rfl⟩
  | x :: r, h => by
    have hx := h x (by simp)
    simp only [fits] at hx
    obtain ⟨n, rfl, hn⟩ := hx
    have h2 : 0 ≤ n ∧ n ≤ 255 := by simpa [Lit.wf, IntKind.min, IntKind.max, IntKind.bits, IntKind.signed] using hn
    obtain ⟨L, rfl⟩ := fits_u8s (xs := r) fun y hy => h y (List.mem_cons_of_mem _ hy)
    refine ⟨UInt8.ofNat n.toNat :: L, ?_⟩
    have e : ((UInt8.ofNat n.toNat).toNat : Int) = n := by simp; omega
    simp only [u8s, List.map_cons, e]
theorem fits_bytes {a : AV} (h : fits (.sl (.int .u8)) a) : ∃ L : List UInt8, a = .sl (u8s L) .no ∧ L.length ≤ maxLen := by
  rw [fits] at h
  obtain ⟨xs, rfl, h1, h2⟩ := h
  obtain ⟨L, rfl⟩ := fits_u8s h2
  exact ⟨L, rfl, by simpa using h1⟩
end Go.Proofs.YtghlkjkdejebnaaGreatDoor
namespace Go.Proofs.YtghlkjkdejebnaaGreatDoor
open Rg Go Go.RowKit
theorem fits_list {α : Type} {s : Sh} {f : α → AV} {Q : α → Prop} (h : ∀ a, fits s a → ∃ x, a = f x ∧ Q x) : ∀ {xs : List AV}, (∀ x ∈ xs, fits s x) → ∃ L : List α, xs = L.map f ∧ ∀ x ∈ L, Q x
  | [], _ => ⟨[], rfl, by simp⟩
  | x :: r, hx => by
    obtain ⟨a, rfl, ha⟩ := h x (hx x (by simp))
    obtain ⟨L, rfl, hL⟩ := fits_list h (xs := r) fun y hy => hx y (List.mem_cons_of_mem _ hy)
    exact ⟨a :: L, rfl, fun m hm => by
      rcases List.mem_cons.1 hm with e | hm
      · rw [e]; exact ha
      · exact hL m hm⟩
theorem fits_fire (a : AV) (h : fits (.st [.int .u64, .int .i64, .int .i64, .int .i64, .int .u64, .int .u64, .int .i64]) a) : ∃ f : Fr, a = frAV f ∧ ∀ n ∈ frN f, n < 18446744073709551616 := by
  rw [fits] at h
  obtain ⟨cs, rfl, h⟩ := h
  simp only [fitsL] at h
  obtain ⟨a0, r0, rfl, h0, a1, r1, rfl, h1, a2, r2, rfl, h2, a3, r3, rfl, h3, a4, r4, rfl, h4, a5, r5, rfl, h5, a6, r6, rfl, h6, rfl⟩ := h
  obtain ⟨x0, rfl, u0⟩ := fits_u64 h0
  obtain ⟨x1, rfl, u1, v1⟩ := fits_i64 h1
  obtain ⟨x2, rfl, u2, v2⟩ := fits_i64 h2
  obtain ⟨x3, rfl, u3, v3⟩ := fits_i64 h3
  obtain ⟨x4, rfl, u4⟩ := fits_u64 h4
  obtain ⟨x5, rfl, u5⟩ := fits_u64 h5
  obtain ⟨x6, rfl, u6, v6⟩ := fits_i64 h6
  refine ⟨⟨x0, x1, x2, x3, x4, x5, x6⟩, rfl, ?_⟩
  simp only [frN, List.mem_cons, List.not_mem_nil, or_false, forall_eq_or_imp, forall_eq]
  exact ⟨u0, zig_lt u1 v1, zig_lt u2 v2, zig_lt u3 v3, u4, u5, zig_lt u6 v6⟩
theorem fits_talk (a : AV) (h : fits (.st [.int .u64, .int .u64, .st [.int .i64, .int .u64]]) a) : ∃ t : Tl, a = tlAV t ∧ ∀ n ∈ tlN t, n < 18446744073709551616 := by
  rw [fits] at h
  obtain ⟨cs, rfl, h⟩ := h
  simp only [fitsL] at h
  obtain ⟨a0, r0, rfl, h0, a1, r1, rfl, h1, a2, r2, rfl, h2, rfl⟩ := h
  rw [fits] at h2
  obtain ⟨cs, rfl, h2⟩ := h2
  simp only [fitsL] at h2
  obtain ⟨b0, s0, rfl, g0, b1, s1, rfl, g1, rfl⟩ := h2
  obtain ⟨x0, rfl, u0⟩ := fits_u64 h0
  obtain ⟨x1, rfl, u1⟩ := fits_u64 h1
  obtain ⟨x2, rfl, u2, v2⟩ := fits_i64 g0
  obtain ⟨x3, rfl, u3⟩ := fits_u64 g1
  refine ⟨⟨x0, x1, x2, x3⟩, rfl, ?_⟩
  simp only [tlN, List.mem_cons, List.not_mem_nil, or_false, forall_eq_or_imp, forall_eq]
  exact ⟨u0, u1, zig_lt u2 v2, u3⟩
theorem fits_parts {a : AV} (h : fits (.st [.sl (.st [.int .u64, .str, .str, .int .i64, .int .i64, .int .i64, .int .i64, .int .i64, .sl (.int .u64), .bool, .int .u64, .int .i64]), .int .u64, .sl (.st [.int .u64, .int .i64, .int .i64, .int .i64, .int .u64, .int .u64, .int .i64]), .sl (.st [.int .u64, .int .u64, .st [.int .i64, .int .u64]]), .int .i64, .int .u64]) a) :
    ∃ p : Pt, a = ptAV p ∧ ((∀ j ∈ p.jobs, JbOk j) ∧ p.jobs.length ≤ 9223372036854775807 ∧ ((∀ j ∈ p.jobs, j.ex.length ≤ 4096) → PtOk p)) := by
  rw [fits] at h
  obtain ⟨cs, rfl, h⟩ := h
  simp only [fitsL] at h
  obtain ⟨a0, r0, rfl, h0, a1, r1, rfl, h1, a2, r2, rfl, h2, a3, r3, rfl, h3, a4, r4, rfl, h4, a5, r5, rfl, h5, rfl⟩ := h
  rw [fits] at h0 h2 h3
  obtain ⟨xs0, rfl, l0, h0⟩ := h0
  obtain ⟨xs2, rfl, l2, h2⟩ := h2
  obtain ⟨xs3, rfl, l3, h3⟩ := h3
  obtain ⟨js, rfl, hj⟩ := fits_list (fun a h => fits_jobk (a := a) h) h0
  obtain ⟨fs, rfl, hf⟩ := fits_list fits_fire h2
  obtain ⟨ts, rfl, ht⟩ := fits_list fits_talk h3
  obtain ⟨last, rfl, u1⟩ := fits_u64 h1
  obtain ⟨now, rfl, u4, v4⟩ := fits_i64 h4
  obtain ⟨tokens, rfl, u5⟩ := fits_u64 h5
  refine ⟨⟨js, last, fs, ts, now, tokens⟩, rfl, hj, by rw [List.length_map] at l0; simpa [maxLen] using l0, fun he => ⟨fun j h => ⟨hj j h, he j h⟩, u1, u5, zig_lt u4 v4, hf, ht⟩⟩
end Go.Proofs.YtghlkjkdejebnaaGreatDoor
