/- Fields: a text's field. -/
import Derived.Test.YtdpgnbinekcgdaaGreatDoorFieldI
namespace Go.Proofs.YtdpgnbinekcgdaaGreatDoor
open Rg Go

variable {H : Heap}

theorem c_parse (hG : Glob H) (k : Int) (s : List UInt8) (hs : s.length ≤ 1000000) : AOk Tryz.prog 11 [.sc (.int .i64 k), str s] H (.tup [fAV (parseK k s).1, .sc (.int .i64 (parseK k s).2)]) H := by
  have hm : ∀ x ∈ Lib.split s [44], x.length ≤ 1000000 := fun x hx => Nat.le_trans (split_len _ _ _ x hx) hs
  have hL := split_length s [44] (by decide)
  refine ACalls.into Tryz.func11 rfl Tryz.ntmps11 Tryz.results11 (by simp) ?_
  simp -implicitDefEqProofs
  refine AAlloc.intro fun b4 h4 => ?_
  simp -implicitDefEqProofs
  refine ACall.eq (c_is k) ?_
  unfold parseK
  cases hk : isK k with
  | false =>
    simp -implicitDefEqProofs [fAV]
    exact HWk.new h4 (HWk.refl _)
  | true =>
    rw [if_neg (by simp)]
    by_cases hl : 150 < s.length
    · have hl' : (150 : Int) < s.length := by omega
      rw [if_pos hl]
      simp -implicitDefEqProofs [hl', fAV]
      exact HWk.new h4 (HWk.refl _)
    · have hl' : ¬ (150 : Int) < s.length := by omega
      rw [if_neg hl]
      simp -implicitDefEqProofs [hl']
      refine ACall.eq (c_hasPrefix s [42]) ?_
      simp -implicitDefEqProofs
      refine AAlloc.intro fun b6 h6 => ?_
      have n64 : b6 ≠ b4 := by intro e; subst e; simp [Heap.set] at h6
      have e6 : H b6 = none := (HLe.set_fresh h4).none h6
      simp -implicitDefEqProofs
      generalize hK : Heap.set _ b6 _ = K
      have k4 : K b4 = some (.cells [.sc (.int .u64 (0 : Nat)), .sc (.bool false)] 25) := by rw [← hK]; simp [Heap.set, n64.symm]
      have k6 : K b6 = some (.cells [.sc (.int .u64 (0 : Nat)), .sc (.bool (Lib.hasPrefix s [42]))] 25) := by rw [← hK]; simp [Heap.set]
      have kG : Glob K := by
        rw [← hK]
        refine hG.mono fun c us e => ?_
        have c4 : c ≠ b4 := by rintro rfl; rw [h4] at e; cases e
        have c6 : c ≠ b6 := by rintro rfl; rw [e6] at e; cases e
        simp [Heap.set, c4, c6, e]
      have kW : HWk H K := by rw [← hK]; exact HWk.new e6 (HWk.new h4 (HWk.refl _))
      clear hK
      refine ACall.eq (c_split kG s [44] (by omega) (by decide)) ?_
      generalize Lib.split s [44] = L at hm hL ⊢
      simp -implicitDefEqProofs
      generalize hres : parseGo k L _ = res
      refine AGo.rounds (fun m ρ K => ∃ (j : Nat) (f : Fld), j ≤ L.length ∧ m = L.length - j ∧ ρ 0 = .sc (.int .i64 k) ∧ ρ 4 = .sc (.pointer (some ⟨b4, 0, none⟩)) ∧ ρ 6 = .sc (.pointer (some ⟨b6, 0, none⟩)) ∧ ρ 25 = .sl (strL L) .no ∧ ρ 26 = .sc (.int .i64 L.length) ∧ ρ 27 = .sc (.int .i64 j) ∧
        f.bits < 18446744073709551616 ∧ parseGo k (L.drop j) f = res ∧ K b4 = some (.cells [.sc (.int .u64 (0 : Nat)), .sc (.bool false)] 25) ∧ K b6 = some (.cells [.sc (.int .u64 f.bits), .sc (.bool f.star)] 25) ∧ Glob K ∧ HWk H K) ?_ (m := L.length) (HLe.refl _)
        ⟨0, ⟨0, Lib.hasPrefix s [42]⟩, by omega, by omega, by simp, by simp, by simp, by simp, by simp, by simp, (by decide : (0 : Nat) < 18446744073709551616), by simpa using hres, k4, k6, kG, kW⟩
      clear k4 k6 kG kW
      rintro m ρ K ih ⟨j, f, hj, rfl, h0, h4', h6', h25, h26, h27, hf, hgo, k4, k6, kG, kW⟩
      by_cases hlt : j < L.length
      · have hmem : L[j] ∈ L := List.getElem_mem hlt
        rw [List.drop_eq_getElem_cons hlt] at hgo
        simp only [parseGo] at hgo
        have hor := u64_or_nat f.bits (itemK k L[j]).1 hf (itemK_lt hk L[j])
        simp -implicitDefEqProofs [h0, h4', h6', h25, h26, h27, hlt]
        refine ACall.eq (c_item kG hk L[j] (hm _ hmem)) ?_
        by_cases he : (itemK k L[j]).2 = 0
        · rw [if_neg (by simp [he])] at hgo
          have hw : IntKind.i64.wrap ((j : Int) + 1) = ((j + 1 : Nat) : Int) := by rw [wrap_i64 (by omega) (by omega)]; push_cast; rfl
          simp -implicitDefEqProofs [he, h6', k6, hor, h27, hw]
          refine AGo.again ih (m' := L.length - (j + 1)) (by omega) (HLe.refl _) ⟨j + 1, ⟨f.bits ||| (itemK k L[j]).1, f.star⟩, by omega, rfl, by simp [h0], by simp [h4'], by simp [h6'], by simp [h25], by simp [h26], by simp,
            or_small hf (itemK_lt hk _), hgo, by simp [Heap.set, n64.symm, k4], by simp [Heap.set], kG.set (by simp [k6]), HWk.new e6 kW⟩
        · rw [if_pos he] at hgo
          subst hgo
          simp -implicitDefEqProofs [he, h4', k4, fAV]
          exact HWk.new h4 kW
      · have hje : j = L.length := by omega
        subst hje
        simp only [List.drop_length, parseGo] at hgo
        subst hgo
        simp -implicitDefEqProofs [h4', h6', h26, h27, k6, k4, fAV]
        exact HWk.new h4 kW
end Go.Proofs.YtdpgnbinekcgdaaGreatDoor
