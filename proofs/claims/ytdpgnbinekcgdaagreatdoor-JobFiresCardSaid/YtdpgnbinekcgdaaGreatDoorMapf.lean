/- strings.Map in field.number. -/
import Derived.Test.YtdpgnbinekcgdaaGreatDoorLib
import Derived.WalkKit
import Derived.WalkSpells
namespace Go.Proofs.YtdpgnbinekcgdaaGreatDoor
open Rg Go Go.RowKit

/-- A capital letter's small one. -/
def lowR (x : Int) : Int := if 65 ≤ x ∧ x ≤ 90 then x + 32 else x

set_option maxHeartbeats 400000 in
theorem map_fn (x : Nat) (hx : x ≤ 1114111) (w : World) : Calls Tryz.prog 110 #[.int .i32 x] w fun e w' => e = .returned (.int .i32 (lowR x)) ∧ w' = w := by
  by_cases h1 : 65 ≤ x
  · by_cases h2 : x ≤ 90
    · have e : lowR x = x + 32 := by unfold lowR; rw [if_pos (by omega)]
      rw [e]
      go_enter Tryz.func110, Tryz.ntmps110
      go_wp2
      go_ret
      exact ⟨rfl, rfl⟩
    · have e : lowR x = x := by unfold lowR; rw [if_neg (by omega)]
      rw [e]
      go_enter Tryz.func110, Tryz.ntmps110
      go_wp2
      go_ret
      exact ⟨rfl, rfl⟩
  · have e : lowR x = x := by unfold lowR; rw [if_neg (by omega)]
    rw [e]
    go_enter Tryz.func110, Tryz.ntmps110
    go_wp2
    go_ret
    exact ⟨rfl, rfl⟩

theorem lowR_range (x : Nat) (hx : x ≤ 1114111) : 0 ≤ lowR x ∧ lowR x ≤ 2147483647 := by
  unfold lowR; split <;> omega

theorem c_map {H : Heap} (hG : Glob H) (s : List UInt8) (hs : s.length < 35184372088832) : AOk Tryz.prog 109 [.sc (.func (.func 110) #[] #[]), str s] H (str (Lib.mapD lowR s)) H :=
  AOk.kit (vs := [.func (.func 110) #[] #[], .string ⟨s.toArray⟩]) (r := .string ⟨(Lib.mapD lowR s).toArray⟩) fun W0 C w hi =>
    Tryz.strings_Map_runes 110 #[] (fun args w => enters_of Tryz.func110 (by kernel_rfl) rfl args w) lowR ⟨s.toArray⟩ w (by simpa [Lib.size_eq] using hs)
      (fun W x hx _ => (map_fn x hx W).mono fun e w' ⟨h1, h2⟩ => ⟨h1, 0, h2⟩) lowR_range (hG.utf8 hi)
end Go.Proofs.YtdpgnbinekcgdaaGreatDoor
