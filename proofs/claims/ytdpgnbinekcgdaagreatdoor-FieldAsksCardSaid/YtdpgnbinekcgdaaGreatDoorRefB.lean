/- The document's fields: a text at each of a byte. -/
import Derived.Test.YtdpgnbinekcgdaaGreatDoorRefA
import Derived.Test.YtdpgnbinekcgdaaGreatDoorSp
namespace Go.Proofs.YtdpgnbinekcgdaaGreatDoor
open Rg Go

variable {H : Heap}

theorem c_refSplit (s : List UInt8) (c : UInt8) (hs : s.length ≤ 1000000) : AOk Tryz.prog 46 [str s, .sc (.int .u8 c.toNat)] H (.sl (strL (sp c s)) .no) H := by
  refine ACalls.into Tryz.func46 rfl Tryz.ntmps46 Tryz.results46 (by simp) ?_
  simp -implicitDefEqProofs
  refine AGo.rounds (fun m ρ K => ∃ (a i : Nat) (out : List (List UInt8)) (t : Tok), a ≤ i ∧ i ≤ s.length ∧ m = s.length - i ∧ ρ 0 = str s ∧ ρ 1 = .sc (.int .u8 c.toNat) ∧ ρ 5 = .sl (strL out) t ∧ ρ 6 = .sc (.int .i64 a) ∧ ρ 7 = .sc (.int .i64 i) ∧
    out.length ≤ a ∧ out ++ sp c (s.drop a) = sp c s ∧ c ∉ (s.drop a).take (i - a) ∧ Grows H (strL out) 1 9 t K) ?_ (m := s.length) (HLe.refl _)
    ⟨0, 0, [], .nil, by omega, by omega, by omega, by simp, by simp, by simp, by simp, by simp, by simp, by simp, by simp, Grows.zero⟩
  rintro m ρ K ih ⟨a, i, out, t, hai, hi, rfl, r0, r1, r5, r6, r7, hol, hsp, hno, hg⟩
  by_cases hlt : i < s.length
  · have hwi : IntKind.i64.wrap ((i : Int) + 1) = ((i + 1 : Nat) : Int) := by rw [wrap_i64 (by omega) (by omega)]; push_cast; rfl
    have hd : (s.drop a).drop (i - a) = s[i] :: s.drop (i + 1) := by
      rw [List.drop_drop, show a + (i - a) = i by omega, List.drop_eq_getElem_cons hlt]
    have hsplit : s.drop a = (s.drop a).take (i - a) ++ s[i] :: s.drop (i + 1) := by rw [← hd, List.take_append_drop]
    by_cases hc : s[i] = c
    · have hc' : ((s[i]).toNat : Int) = (c.toNat : Int) := by rw [hc]
      have hai' : (a : Int) ≤ (i : Int) := by omega
      have hi' : (i : Int) ≤ s.length := by omega
      simp -implicitDefEqProofs [r0, r1, r5, r6, r7, hlt, hc', hai', hi']
      refine AApp.grows el_69 hg (HLe.refl _) (by simp) (szs_strs _) (by simp [szs, AV.cells]) (by simp; omega) (by simp [maxLen]; omega) fun t' K' Hn hg' hl' => ?_
      simp -implicitDefEqProofs [r7, hwi]
      have hcur : (s.drop a).take (i - a) = (s.take i).drop a := by rw [List.drop_take]
      refine AGo.again ih (m' := s.length - (i + 1)) (by omega) hl' ⟨i + 1, i + 1, out ++ [(s.take i).drop a], t', by omega, by omega, rfl, by simp [r0], by simp [r1], by simp, by simp, by simp, by simp; omega, ?_, by simp, by simpa using hg'⟩
      rw [← hsp, hsplit, hc, sp_app, sp_not hno, hcur]
      simp
    · have hc' : ¬ ((s[i]).toNat : Int) = (c.toNat : Int) := by
        intro h; apply hc; apply UInt8.toNat_inj.1; omega
      simp -implicitDefEqProofs [r0, r1, r7, hlt, hc', hwi]
      refine AGo.again ih (m' := s.length - (i + 1)) (by omega) (HLe.refl _) ⟨a, i + 1, out, t, by omega, by omega, rfl, by simp [r0], by simp [r1], by simp [r5], by simp [r6], by simp, hol, hsp, ?_, hg⟩
      rw [show i + 1 - a = (i - a) + 1 by omega, List.take_add_one]
      have he : (s.drop a)[i - a]? = some s[i] := by rw [List.getElem?_drop, show a + (i - a) = i by omega, List.getElem?_eq_getElem hlt]
      rw [he]
      simp only [Option.toList_some, List.mem_append, List.mem_singleton, not_or]
      exact ⟨hno, fun h => hc h.symm⟩
  · obtain rfl : i = s.length := by omega
    have hai' : (a : Int) ≤ s.length := by omega
    simp -implicitDefEqProofs [r0, r5, r6, r7, hai']
    refine AApp.grows el_69 hg (HLe.refl _) (by simp) (szs_strs _) (by simp [szs, AV.cells]) (by simp; omega) (by simp [maxLen]; omega) fun t' K' Hn hg' hl' => ?_
    have hno' : c ∉ s.drop a := by rw [List.take_of_length_le (by simp)] at hno; exact hno
    rw [← hsp, sp_not hno']
    simp -implicitDefEqProofs
    exact ((hg'.le).trans hl').wk
end Go.Proofs.YtdpgnbinekcgdaaGreatDoor
