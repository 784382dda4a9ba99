/- Fields: the chapter's rows. -/
import Derived.Test.YtdpgnbinekcgdaaGreatDoorFieldT
namespace Go.Proofs.YtdpgnbinekcgdaaGreatDoor
open Rg Go

variable {H : Heap}

def dec2 (i : Nat) : List UInt8 := if i < 10 then [UInt8.ofNat (48 + i)] else [UInt8.ofNat (48 + i / 10), UInt8.ofNat (48 + i % 10)]
theorem dec2_eq {i : Nat} (h : i < 100) : Lib.decDigits i = dec2 i := by
  unfold Lib.decDigits dec2
  split
  · rfl
  · unfold Lib.decDigits
    rw [dif_pos (by omega)]
    rfl
def pieces2 (b : Nat) : Nat → Nat → List (List UInt8)
  | 0, _ => []
  | f + 1, at_ =>
    match firstB b at_ with
    | none => []
    | some n =>
      (if n + 2 ≤ runEnd b 64 n then [dec2 n ++ [45] ++ dec2 (runEnd b 64 n)] else (List.range' n (runEnd b 64 n + 1 - n)).map dec2) ++ pieces2 b f (runEnd b 64 n + 1)
theorem pieces_eq {b : Nat} (hb : b < 18446744073709551616) : ∀ (f a : Nat), pieces b f a = pieces2 b f a
  | 0, _ => rfl
  | f + 1, a => by
    unfold pieces pieces2
    cases h : firstB b a with
    | none => rfl
    | some n =>
      obtain ⟨_, h2, _, _⟩ := firstB_some hb h
      obtain ⟨e1, e2⟩ := runEnd_le b 64 n h2
      simp only
      rw [pieces_eq hb f, dec2_eq (by omega), dec2_eq (by omega)]
      congr 2
      apply List.map_congr_left
      intro i hi
      have := List.mem_range'_1.1 hi
      exact dec2_eq (by omega)
def text2 (k : Int) (f : Fld) : List UInt8 :=
  if mayB k f.bits = false then [] else if f.star = true ∧ f.bits = allK k then [42] else Lib.join (pieces2 f.bits 66 0) [44]
theorem text_eq (k : Int) {f : Fld} (hb : f.bits < 18446744073709551616) : textK k f = text2 k f := by
  unfold textK text2
  rw [pieces_eq hb]

set_option maxRecDepth 100000 in
theorem known_1 : parseK 0 [42, 47, 50, 48] = (⟨1099512676353, true⟩, 0) := by decide +kernel
set_option maxRecDepth 100000 in
theorem known_2 : parseK 4 [77, 111, 110, 45, 102, 114, 105, 44, 55] = (⟨63, false⟩, 0) := by decide +kernel
set_option maxRecDepth 100000 in
theorem known_3 : parseK 1 [50, 52] = (⟨0, false⟩, 61) := by decide +kernel
set_option maxRecDepth 100000 in
theorem known_4 : parseK 1 [53, 45] = (⟨0, false⟩, 60) := by decide +kernel
set_option maxRecDepth 100000 in
theorem known_5 : parseK 3 [109, 111, 110] = (⟨0, false⟩, 60) := by decide +kernel
set_option maxRecDepth 100000 in
theorem known_6 : textK 0 ⟨1099512676353, true⟩ = [48, 44, 50, 48, 44, 52, 48] := by rw [text_eq 0 (by decide)]; decide +kernel
set_option maxRecDepth 100000 in
theorem known_7 : textK 4 ⟨63, false⟩ = [48, 45, 53] := by rw [text_eq 4 (by decide)]; decide +kernel

theorem c_known06 (hG : Glob H) : AOk Tryz.prog 10 [] H (.sc (.bool true)) H := by
  refine ACalls.into Tryz.func10 rfl Tryz.ntmps10 Tryz.results10 (by simp) ?_
  simp -implicitDefEqProofs
  refine ACall.eq (c_parse hG 0 [42, 47, 50, 48] (by decide)) ?_
  rw [known_1]
  simp -implicitDefEqProofs [fAV]
  refine AAlloc.intro fun b1 h1 => ?_
  simp -implicitDefEqProofs
  have g1 := hG.new (o := .cells [.sc (.int .u64 1099512676353), .sc (.bool true)] 25) h1
  refine ACall.eq (c_parse g1 4 [77, 111, 110, 45, 102, 114, 105, 44, 55] (by decide)) ?_
  rw [known_2]
  simp -implicitDefEqProofs [fAV]
  refine AAlloc.intro fun b3 h3 => ?_
  have n31 : b3 ≠ b1 := by rintro rfl; simp [Heap.set] at h3
  have n13 := n31.symm
  simp -implicitDefEqProofs
  have g3 := g1.new (o := .cells [.sc (.int .u64 63), .sc (.bool false)] 25) h3
  refine ACall.eq (c_parse g3 1 [50, 52] (by decide)) ?_
  rw [known_3]
  simp -implicitDefEqProofs [fAV]
  refine AAlloc.intro fun b5 h5 => ?_
  have n53 : b5 ≠ b3 := by rintro rfl; simp [Heap.set] at h5
  have n51 : b5 ≠ b1 := by rintro rfl; simp [Heap.set, n13] at h5
  simp -implicitDefEqProofs
  have g5 := g3.new (o := .cells [.sc (.int .u64 0), .sc (.bool false)] 25) h5
  refine ACall.eq (c_parse g5 1 [53, 45] (by decide)) ?_
  rw [known_4]
  simp -implicitDefEqProofs [fAV]
  refine AAlloc.intro fun b7 h7 => ?_
  have n75 : b7 ≠ b5 := by rintro rfl; simp [Heap.set] at h7
  have n73 : b7 ≠ b3 := by rintro rfl; simp [Heap.set, n53.symm] at h7
  have n71 : b7 ≠ b1 := by rintro rfl; simp [Heap.set, n13, n51.symm] at h7
  simp -implicitDefEqProofs
  have g7 := g5.new (o := .cells [.sc (.int .u64 0), .sc (.bool false)] 25) h7
  refine ACall.eq (c_parse g7 3 [109, 111, 110] (by decide)) ?_
  rw [known_5]
  simp -implicitDefEqProofs [fAV]
  refine AAlloc.intro fun b9 h9 => ?_
  have n97 : b9 ≠ b7 := by rintro rfl; simp [Heap.set] at h9
  have n95 : b9 ≠ b5 := by rintro rfl; simp [Heap.set, n75.symm] at h9
  have n93 : b9 ≠ b3 := by rintro rfl; simp [Heap.set, n53.symm, n73.symm] at h9
  have n91 : b9 ≠ b1 := by rintro rfl; simp [Heap.set, n13, n51.symm, n71.symm] at h9
  simp -implicitDefEqProofs [n13, n51.symm, n71.symm, n91.symm, n53.symm, n73.symm, n93.symm]
  have g9 := g7.new (o := .cells [.sc (.int .u64 0), .sc (.bool false)] 25) h9
  refine ACall.eq (c_text g9 0 ⟨1099512676353, true⟩ (by decide)) ?_
  rw [known_6]
  simp -implicitDefEqProofs [n13, n51.symm, n71.symm, n91.symm, n53.symm, n73.symm, n93.symm]
  refine ACall.eq (c_text g9 4 ⟨63, false⟩ (by decide)) ?_
  rw [known_7]
  simp -implicitDefEqProofs
  exact (((((HLe.set_fresh h1).trans (HLe.set_fresh h3)).trans (HLe.set_fresh h5)).trans (HLe.set_fresh h7)).trans (HLe.set_fresh h9)).wk
end Go.Proofs.YtdpgnbinekcgdaaGreatDoor
