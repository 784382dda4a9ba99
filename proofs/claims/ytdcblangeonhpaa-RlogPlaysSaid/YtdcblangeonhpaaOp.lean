/- The statements' arguments, opened. -/
import Derived.Test.YtdcblangeonhpaaDb
import Derived.Test.YtdcblangeonhpaaRgO
namespace Go.Proofs.Ytdcblangeonhpaa
open Rg Go Go.RowKit Go.WideShapes Go.ChangeShapes

theorem Try.own : ownKnob Try.prog.godebug = none := by kernel_rfl
theorem Try.laidOut : laidOutB Try.prog = true := by kernel_rfl

theorem fits_u64 {a : AV} (h : fits (.int .u64) a) : ∃ n : Int, a = u64 n ∧ 0 ≤ n ∧ n ≤ 18446744073709551615 := by
  obtain ⟨n, rfl, hw⟩ := h
  simp [Lit.wf, IntKind.min, IntKind.max, IntKind.signed, IntKind.bits] at hw
  exact ⟨n, rfl, by omega, by omega⟩
theorem fits_int {a : AV} (h : fits (.int .i64) a) : ∃ n : Int, a = i64 n ∧ -9223372036854775808 ≤ n ∧ n ≤ 9223372036854775807 := by
  obtain ⟨n, rfl, hw⟩ := h
  simp [Lit.wf, IntKind.min, IntKind.max, IntKind.signed, IntKind.bits] at hw
  exact ⟨n, rfl, by omega, by omega⟩
theorem fits_u8 {a : AV} (h : fits (.int .u8) a) : ∃ c : UInt8, a = byteAV c := by
  obtain ⟨n, rfl, hw⟩ := h
  simp [Lit.wf, IntKind.min, IntKind.max, IntKind.signed, IntKind.bits] at hw
  refine ⟨UInt8.ofNat n.toNat, ?_⟩
  have : ((UInt8.ofNat n.toNat).toNat : Int) = n := by
    rw [UInt8.toNat_ofNat_of_lt' (by show n.toNat < 256; omega)]; omega
  simp only [byteAV]; rw [this]

theorem all_map {α : Type} {f : α → AV} {p : α → Prop} : ∀ {xs : List AV}, (∀ x ∈ xs, ∃ a, x = f a ∧ p a) → ∃ l : List α, xs = l.map f ∧ ∀ a ∈ l, p a
  | [], _ => ⟨[], rfl, by simp⟩
  | x :: xs, h => by
    obtain ⟨a, rfl, ha⟩ := h x (by simp)
    obtain ⟨l, rfl, hl⟩ := all_map (xs := xs) fun y hy => h y (by simp [hy])
    exact ⟨a :: l, rfl, by simpa using ⟨ha, hl⟩⟩

theorem fits_body {a : AV} (h : fits (.sl (.int .u8)) a) : ∃ b : List UInt8, a = bodyAV b ∧ b.length ≤ maxLen := by
  obtain ⟨xs, rfl, hl, hx⟩ := h
  obtain ⟨l, rfl, _⟩ := all_map (f := byteAV) (p := fun _ => True) fun x hx' => (fits_u8 (hx x hx')).imp fun c hc => ⟨hc, trivial⟩
  exact ⟨l, rfl, by simpa using hl⟩

theorem fits_row {a : AV} (h : fits (.sl (.st [.int .u64, .int .u64, .sl (.int .u8)])) a) : ∃ L : List Ent, a = rowAV L ∧ Fits L ∧ L.length ≤ maxLen := by
  obtain ⟨xs, rfl, hl, hx⟩ := h
  obtain ⟨l, rfl, hp⟩ := all_map (f := Ent.av) (p := fun e => (0 ≤ e.i ∧ e.i ≤ 18446744073709551615) ∧ 0 ≤ e.t ∧ e.t ≤ 18446744073709551615) fun x hx' => by
    obtain ⟨cs, rfl, a, r, rfl, h1, a2, r2, rfl, h2, a3, r3, rfl, h3, h4⟩ := hx x hx'
    obtain ⟨n, rfl, hn⟩ := fits_u64 h1
    obtain ⟨m, rfl, hm⟩ := fits_u64 h2
    obtain ⟨b, rfl, hb⟩ := fits_body h3
    simp only [fitsL] at h4
    subst h4
    exact ⟨⟨n, m, b⟩, by simp [AV.cells], hn, hm⟩
  exact ⟨l, rfl, hp, by simpa using hl⟩

end Go.Proofs.Ytdcblangeonhpaa
