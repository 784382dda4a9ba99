/- What a law's arguments are: jobs. -/
import Derived.Test.YtdpgnbinekcgdaaGreatDoorFits
import Derived.Test.YtdpgnbinekcgdaaGreatDoorJob
namespace Go.Proofs.YtdpgnbinekcgdaaGreatDoor
open Rg Go

theorem fits_nats : ∀ {xs : List AV}, (∀ x ∈ xs, fits (.int .u64) x) → ∃ L : List Nat, xs = L.map fun n : Nat => (.sc (.int .u64 n) : AV)
  | [], _ => ⟨[], rfl⟩
  | x :: r, h => by
    obtain ⟨n, rfl, _⟩ := fits_u64 (h x (by simp))
    obtain ⟨L, rfl⟩ := fits_nats (xs := r) fun y hy => h y (List.mem_cons_of_mem _ hy)
    exact ⟨n :: L, rfl⟩
theorem fits_job {a : AV} (h : fits (.st [.int .u64, .str, .str, .int .i64, .int .i64, .int .i64, .int .i64, .int .i64, .sl (.int .u64), .bool, .int .u64, .int .i64]) a) : ∃ j : Jb, a = jbAV j .no ∧ True := by
  rw [fits] at h
  obtain ⟨cs, rfl, h⟩ := h
  simp only [fitsL] at h
  obtain ⟨a0, r0, rfl, h0, a1, r1, rfl, h1, a2, r2, rfl, h2, a3, r3, rfl, h3, a4, r4, rfl, h4, a5, r5, rfl, h5, a6, r6, rfl, h6, a7, r7, rfl, h7, a8, r8, rfl, h8, a9, r9, rfl, h9, a10, r10, rfl, h10, a11, r11, rfl, h11, rfl⟩ := h
  obtain ⟨id, rfl, _⟩ := fits_u64 h0
  obtain ⟨name, rfl, _⟩ := fits_str h1
  obtain ⟨ex, rfl, _⟩ := fits_str h2
  obtain ⟨pol, rfl, _⟩ := fits_i64 h3
  obtain ⟨gr, rfl, _⟩ := fits_i64 h4
  obtain ⟨lim, rfl, _⟩ := fits_i64 h5
  obtain ⟨ret, rfl, _⟩ := fits_i64 h6
  obtain ⟨tim, rfl, _⟩ := fits_i64 h7
  rw [fits] at h8
  obtain ⟨xs, rfl, _, h8⟩ := h8
  obtain ⟨deps, rfl⟩ := fits_nats h8
  rw [fits] at h9
  obtain ⟨pau, rfl⟩ := h9
  obtain ⟨ver, rfl, _⟩ := fits_u64 h10
  obtain ⟨seen, rfl, _⟩ := fits_i64 h11
  exact ⟨⟨id, name, ex, pol, gr, lim, ret, tim, deps, pau, ver, seen⟩, rfl, trivial⟩
end Go.Proofs.YtdpgnbinekcgdaaGreatDoor
