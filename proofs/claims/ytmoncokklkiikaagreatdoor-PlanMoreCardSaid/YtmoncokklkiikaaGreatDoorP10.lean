/- Rows that are changed in place, of elements of several cells. -/
import Derived.Test.YtmoncokklkiikaaGreatDoorP09
set_option linter.unusedSimpArgs false
set_option linter.unusedVariables false
set_option linter.unnecessarySimpa false
namespace Rg
open Go Go.RowKit
variable {P : Program} {W0 w : World} {C : Com} {H : Heap}
def RawRowZ (sz : Nat) (H0 : Heap) (e : TypeId) (xs : List AV) (v : AV) (K : Heap) : Prop :=
  HLe H0 K ∧ ((xs = [] ∧ v = .sc (.slice none 0 0)) ∨ ∃ g zs cap, H0 g = none ∧ v = .sc (.slice (some ⟨g, 0, none⟩) xs.length cap) ∧ K g = some (.cells (xs.flatMap AV.cells ++ zs) e) ∧ xs.length * sz + zs.length = cap * sz ∧ xs.length ≤ cap ∧ cap ≤ maxLen)
theorem RawRowZ.none {sz : Nat} {H0 : Heap} {e : TypeId} : RawRowZ sz H0 e [] (.sc (.slice none 0 0)) H0 := ⟨HLe.refl _, .inl ⟨rfl, rfl⟩⟩
theorem app_rawZ {T e : TypeId} {by_ sz : Nat} (hs0 : 0 < sz) (he : ElemOk P T e sz by_) (hz : ∀ z, tzero P e = some z → ∀ q ∈ z.cells.toList, q.oneCell' = true) {H0 K : Heap} {xs : List AV} {v y : AV} {t : Tok} (hr : RawRowZ sz H0 e xs v K)
    (hx : szs sz xs = true) (hy : y.cells.length = sz) (hb : (xs.length + 1) * by_ ≤ 140737488355328) (hm : xs.length + 1 ≤ maxLen) :
    ACalls P P.funcs.size [.sc (.int .i64 ((T : Nat) : Int)), v, .sl [y] t] K (fun v' K' => RawRowZ sz H0 e (xs ++ [y]) v' K') := by
  intro W0 C w vs hi hargs
  obtain ⟨q0, us, rfl, h0, ar1⟩ := hargs.uncons
  obtain rfl := h0.sc_inv
  obtain ⟨u, us', rfl, hu, ar2⟩ := ar1.uncons
  obtain ⟨v2, us'', rfl, hv, ar3⟩ := ar2.uncons
  obtain rfl := ar3.nil_inv
  refine .inr (.inl ⟨rfl, T, u, v2, rfl, fun ty => ?_⟩)
  obtain ⟨i, z, hinf, hsz, hby, hz1, hz2⟩ := he.info
  have hT := telem_spec he.el
  have htz : tzero P e = some z := by unfold tzero; rw [hinf]; simpa using hz1
  have hys : szs sz [y] = true := by simp [szs, hy]
  have hfl : (xs.flatMap AV.cells).length = xs.length * sz := flat_length (szs_spec hx)
  obtain ⟨b, o, cp, news, rfl, n1, n2, n3, _, n5⟩ := src_cells hi hv hys (by simp)
  simp only [List.flatMap_cons, List.flatMap_nil, List.append_nil] at n1
  simp only [List.length_singleton, Nat.one_mul] at n3 n5
  have hm' : xs.length + 1 ≤ 9223372036854775807 := by simpa [maxLen] using hm
  have hfa : (xs ++ [y]).flatMap AV.cells = xs.flatMap AV.cells ++ y.cells := by simp
  obtain ⟨hle, hcase⟩ := hr
  have new : ∀ (olds : List Value) (cap : Nat), RelL C (xs.flatMap AV.cells) olds → (∀ q ∈ olds, q.oneCell' = true) → xs.length + 1 ≤ cap → cap ≤ maxLen →
      ∃ K', Inv W0 C K' (w.drew.alloc (.cells (olds.toArray ++ news.toArray ++ Builtin.zeroCells z.cells (cap - (xs.length + 1))) e)) ∧
        RawRowZ sz H0 e (xs ++ [y]) (.sc (.slice (some ⟨w.heap.size, 0, none⟩) (xs.length + 1) cap)) K' := by
    intro olds cap hro ho1 hcap hcapm
    obtain ⟨zl, hzl⟩ : ∃ zl, (Builtin.zeroCells z.cells (cap - (xs.length + 1))).toList = zl := ⟨_, rfl⟩
    have hzlen : zl.length = (cap - (xs.length + 1)) * sz := by rw [← hzl, Array.length_toList, size_zeroCells, hz2]
    have hz1c : ∀ q ∈ zl, q.oneCell' = true := by rw [← hzl]; exact zero_one (hz z htz) (by omega) _
    have hI := hi.draw.allocObj (xs.flatMap AV.cells ++ y.cells ++ zl.map .sc) (olds ++ news ++ zl) e ((hro.append n1).append (relL_scs zl)) (by
      intro q hq
      rcases List.mem_append.1 hq with hq | hq
      · rcases List.mem_append.1 hq with hq | hq
        · exact ho1 q hq
        · exact n2 q hq
      · exact hz1c q hq)
    have hf : K w.heap.size = none := hi.heap_fresh
    refine ⟨K.set w.heap.size (.cells (xs.flatMap AV.cells ++ y.cells ++ zl.map .sc) e), ?_, hle.trans (HLe.set_fresh hf), .inr ⟨w.heap.size, zl.map .sc, cap, HLe.none hle hf, ?_, ?_, ?_, ?_, hcapm⟩⟩
    · have ea : (olds.toArray ++ news.toArray ++ Builtin.zeroCells z.cells (cap - (xs.length + 1))) = (olds ++ news ++ zl).toArray := by
        rw [← hzl]; exact list_arr3 _ _ _
      rw [ea]
      exact hI
    · simp
    · simp [Heap.set]
    · rw [List.length_map, hzlen, List.length_append, List.length_singleton, ← Nat.add_mul]
      congr 1
      omega
    · simpa using hcap
  rcases hcase with ⟨rfl, rfl⟩ | ⟨g, zs, cap, hg0, rfl, hKg, hKm, hcl, hcm⟩
  · obtain rfl := hu.sc_inv
    simp only [List.length_nil, Nat.zero_add] at hm' hb
    have hrun := run_append_nil (P := P) w T ty e i z hT hinf hz1 ⟨b, o, none⟩ 1 cp news (by rw [n3, hsz, Nat.one_mul]) n5 (by omega) (by omega) (by omega)
    obtain ⟨K', hI, hR⟩ := new [] (grownCap w 1 0 e) .nil (by simp) (grownCap_ge w 1 0 e) (grownCap_le_maxLen w 1 0 e (by simp [maxLen]))
    simp only [List.length_nil, Nat.zero_add] at hI hR
    have ea : ((#[] : Array Value) ++ news.toArray) = news.toArray := by simp
    rw [show ([] : List Value).toArray = #[] from rfl, ea] at hI
    exact ⟨_, _, hrun, _, _, C, _, rfl, hR, CLe.refl C, Rel.sc _, hI⟩
  · obtain rfl := hu.sc_inv
    obtain ⟨_, vs0, hv0, hrel0, hone0, _⟩ := hi.obj _ _ hKg
    obtain ⟨o1, o2, rfl, hr1, hr2⟩ := hrel0.split
    have l1 := hr1.length
    have l2 := hr2.length
    rw [hfl] at l1
    have hone1 : ∀ q ∈ o1, q.oneCell' = true := fun q hq => hone0 q (List.mem_append.2 (.inl hq))
    have hone2 : ∀ q ∈ o2, q.oneCell' = true := fun q hq => hone0 q (List.mem_append.2 (.inr hq))
    by_cases hroom : xs.length + 1 ≤ cap
    · have hge : sz ≤ zs.length := by
        have : (xs.length + 1) * sz ≤ cap * sz := Nat.mul_le_mul_right _ hroom
        rw [Nat.add_mul, Nat.one_mul] at this
        omega
      have hrun := run_append_room (P := P) w T ty e i hT hinf g xs.length cap _ hv0 ⟨b, o, none⟩ 1 cp news (by rw [n3, hsz, Nat.one_mul]) n5 n2 hroom (by simp [hsz, n3]; omega)
      rw [← List.take_append_drop sz zs] at hr2
      obtain ⟨p1, p2, rfl, hp1, hp2⟩ := hr2.split
      have lp := hp1.length
      rw [List.length_take, Nat.min_eq_left hge] at lp
      have erow : ((o1 ++ (p1 ++ p2)).toArray.toList.take (xs.length * i.size) ++ news ++ (o1 ++ (p1 ++ p2)).toArray.toList.drop (xs.length * i.size + news.length)).toArray = (o1 ++ news ++ p2).toArray := by
        have e1 : (o1 ++ (p1 ++ p2)).take (xs.length * sz) = o1 := List.take_left' (by omega)
        have e2 : (o1 ++ (p1 ++ p2)).drop (xs.length * sz + sz) = p2 := by rw [← List.append_assoc]; exact List.drop_left' (by rw [List.length_append]; omega)
        simp only [hsz, n3, e1, e2]
      rw [erow] at hrun
      have hI := hi.setRow hKg (cs' := xs.flatMap AV.cells ++ y.cells ++ zs.drop sz) (row := o1 ++ news ++ p2) ((hr1.append n1).append hp2) (by
        intro q hq
        rcases List.mem_append.1 hq with hq | hq
        · rcases List.mem_append.1 hq with hq | hq
          · exact hone1 q hq
          · exact n2 q hq
        · exact hone2 q (List.mem_append.2 (.inr hq)))
      refine ⟨_, _, hrun, _, _, C, _, rfl, ⟨?_, .inr ⟨g, zs.drop sz, cap, hg0, ?_, ?_, ?_, ?_, hcm⟩⟩, CLe.refl C, Rel.sc _, hI⟩
      · exact HLe.set_new hle hg0
      · simp
      · simp [Heap.set]
      · rw [List.length_append, List.length_singleton, List.length_drop, Nat.add_mul, Nat.one_mul]
        omega
      · simpa using hroom
    · have hce : cap = xs.length := by omega
      subst hce
      have hzs0 : zs = [] := List.length_eq_zero_iff.1 (by omega)
      subst hzs0
      have ho2 : o2 = [] := List.length_eq_zero_iff.1 (by simpa using l2.symm)
      subst ho2
      simp only [List.append_nil] at hv0
      have hcap := grownCap_ge w (xs.length + 1) xs.length e
      have hrun := run_append_grow (P := P) w T ty e i z hT hinf hz1 ⟨g, 0, none⟩ xs.length xs.length o1 (by rw [hsz]; omega) (fun j q hq => by
          rw [addr_add, Nat.zero_add, cell_of_row w g j _ e _ hv0]
          simpa using hq) ⟨b, o, none⟩ 1 cp news (by rw [n3, hsz, Nat.one_mul]) n5 (by omega) (by omega) (growslice_fits (by omega) (by rw [hby]; exact hb))
      obtain ⟨K', hI, hR⟩ := new o1 (grownCap w (xs.length + 1) xs.length e) hr1 hone1 hcap (grownCap_le_maxLen w (xs.length + 1) xs.length e hm)
      exact ⟨_, _, hrun, _, _, C, _, rfl, hR, CLe.refl C, Rel.sc _, hI⟩
end Rg
