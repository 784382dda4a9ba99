/- Copies of bodies and of rows of entries. -/
import Derived.Test.YtdcblangeonhpaaFact
namespace Go.Proofs.Ytdcblangeonhpaa
open Rg Go

/-- An entry. -/
structure Ent where
  i : Int
  t : Int
  b : List UInt8

abbrev byteAV (c : UInt8) : AV := .sc (.int .u8 c.toNat)
abbrev bodyAV (b : List UInt8) : AV := .sl (b.map byteAV) .no
abbrev Ent.av (e : Ent) : AV := .agg [.sc (.int .u64 e.i), .sc (.int .u64 e.t), bodyAV e.b]
abbrev rowAV (l : List Ent) : AV := .sl (l.map Ent.av) .no

@[simp] theorem szs_bytes (b : List UInt8) : szs 1 (b.map byteAV) = true := szs_map (f := byteAV) (fun _ => rfl) b
@[simp] theorem szs_row (l : List Ent) : szs 3 (l.map Ent.av) = true := szs_map (f := Ent.av) (fun _ => rfl) l

theorem clone_bytes (b : List UInt8) (hb : b.length ≤ 1000000000) (H : Heap) : AOk Try.prog 36 [bodyAV b] H (bodyAV b) H := by
  unfold bodyAV
  refine ACalls.nilCase (pre := []) (post := []) (fun h => ?_) ?_
  · simp -implicitDefEqProofs only [List.map_eq_nil_iff] at h; subst h
    refine ACalls.into Try.func36 rfl Try.ntmps36 Try.results36 (by simp) ?_
    simp -implicitDefEqProofs [Tok.isNil]
  · refine ACalls.into Try.func36 rfl Try.ntmps36 Try.results36 (by simp) ?_
    simp -implicitDefEqProofs [Tok.isNil]
    refine AApp.no el_32 (.inl (.inr rfl)) (by simp) (by simp) (by simp; omega) (by simp [maxLen]; omega) ?_
    simp -implicitDefEqProofs

theorem clone_ent (e : Ent) (hb : e.b.length ≤ 1000000000) (H : Heap) : AOk Try.prog 34 [e.av] H e.av H := by
  refine ACalls.into Try.func34 rfl Try.ntmps34 Try.results34 (by simp) ?_
  simp -implicitDefEqProofs [Ent.av]
  refine AAlloc.intro fun b1 h1 => ?_
  simp -implicitDefEqProofs
  refine AAlloc.intro fun b2 h2 => ?_
  have n12 : b1 ≠ b2 := by rintro rfl; simp at h2
  have n21 := n12.symm
  simp -implicitDefEqProofs [n12, n21]
  refine ACall.ok (clone_bytes e.b hb _) (by simp) ?_
  simp -implicitDefEqProofs [n12, n21]
  have h2 : H b2 = none := by simpa [n21] using h2
  exact ((((HWk.refl _).new h1).new h2).new h1).new h2

/-- Bodies that may be copied. -/
def Slim (l : List Ent) : Prop := ∀ e ∈ l, e.b.length ≤ 1000000000

theorem clones_row (L : List Ent) (hs : Slim L) (hL : L.length ≤ 1000000000) (H : Heap) : AOk Try.prog 32 [rowAV L] H (rowAV L) H := by
  refine ACalls.into Try.func32 rfl Try.ntmps32 Try.results32 (by simp) ?_
  simp -implicitDefEqProofs [rowAV]
  refine AGo.rounds (fun m ρ K => ∃ j t, j ≤ L.length ∧ m = L.length - j ∧ ρ 6 = rowAV L ∧ ρ 7 = .sc (.int .i64 L.length) ∧ ρ 8 = .sc (.int .i64 j) ∧ ρ 3 = .sl ((L.map Ent.av).take j) t ∧ Grows H ((L.map Ent.av).take j) 3 34 t K)
    ?_ (m := L.length) (HLe.refl H) ⟨0, .nil, by omega, by omega, by simp, by simp, by simp, by simp, by simpa using Grows.zero⟩
  rintro m ρ K ih ⟨j, t, hj, rfl, h6, h7, h8, h3, hg⟩
  by_cases hlt : j < L.length
  · have hem : L[j] ∈ L := List.getElem_mem hlt
    have hj0 : ¬ ((j : Int) < 0) := by omega
    simp -implicitDefEqProofs [h6, h7, h8, h3, hlt, hj0]
    refine AAlloc.intro fun b hb => ?_
    simp -implicitDefEqProofs
    refine ACall.ok (clone_ent L[j] (hs _ hem) _) (by simp) ?_
    simp -implicitDefEqProofs [h3]
    refine AApp.grows el_22 hg (HLe.set_fresh hb) (by simp) (szs_take (by simp) _) (by simp) (by simp; omega) (by simp [maxLen]; omega) fun t' K' Hn hg' hl' => ?_
    simp -implicitDefEqProofs [h8]
    refine AGo.again ih (m' := L.length - (j + 1)) (by omega) hl' ⟨j + 1, t', by omega, rfl, by simp [h6], by simp [h7], ?_, ?_, ?_⟩
    · simp -implicitDefEqProofs
      rw [wrap_i64 (by omega) (by omega)]
    · simp -implicitDefEqProofs [List.take_add_one, hlt]
    · simpa [List.take_add_one, hlt] using hg'
  · have hjl : j = L.length := by omega
    simp -implicitDefEqProofs [h6, h7, h8, h3, hlt]
    exact ⟨by rw [List.take_of_length_le (by simp; omega)]; simp, hg.le.wk⟩

end Go.Proofs.Ytdcblangeonhpaa
