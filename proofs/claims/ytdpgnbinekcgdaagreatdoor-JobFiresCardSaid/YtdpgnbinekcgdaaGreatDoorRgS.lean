/- From a law whose row lists package variables to its run: they stand in the heap as what is only read. -/
import Derived.Test.YtdpgnbinekcgdaaGreatDoorRgO
import Derived.Test.YtdpgnbinekcgdaaGreatDoorRgR
import Derived.Handed
import Derived.HandedShaped
import Derived.LaidLaws
namespace Rg
open Go Go.RowKit Go.WideShapes Go.ChangeShapes

theorem returnsInHanded_of_change_and_shaped {H : Type} {enc : TypeId × Value → H} {a : Assume} {C : Checked} {os : Os} {f : FuncId} {fn : Func} {s : ChangeSpec} {conds : List PathCond} {apart fresh handsOn again : Bool} {X : World → Array Value → Prop}
    (hX : ∀ (w w' : World) (args : Array Value), w.heap = w'.heap → X w args → X w' args)
    (own : ownKnob C.prog.godebug = none) (started : os.Started) (noInit : C.prog.inits.idxOf? f = none) (hfn : C.prog.funcs[f]? = some fn)
    (witness : ∃ (w : World) (tape : Tape) (i : Input), w.os = os ∧ (w.forCall tape i).Shaped C.prog ∧ i.vars = [] ∧ Input.okWide C.prog (w.forCall tape i) .any w.heap.size f i ∧
      ((s.pre enc C.prog fn conds apart (w.forCall tape i).memory i.args ∧ X (w.forCall tape i).memory i.args) ∧ sizedMet enc C.prog fn (OpenSpec.ofChange s) apart (w.forCall tape i).memory i.args) ∧ a.holds C.prog (lone (Frame.enter C.prog f i.args .normal) [] (w.forCall tape i)))
    (contract : ∀ (W : World) (base : Nat) (args : Array Value) (ds gs : List (DataW H)) (before : List MemPlace),
      (∀ (j : Nat) t v, fn.params[j]? = some t → args[j]? = some v → Value.okWide C.prog W .any base t v) →
      DataW.Whole enc C.prog fn.params.toList s.vars apart W args.toList ds gs before → X W args → W.ShapedOpen C.prog →
      Calls C.prog f args W fun e W' => ∃ v, e = .returned v ∧ s.post enc C.prog fn apart fresh handsOn again W args v W') :
    ReturnsInHanded a C os f .any (fun w args => (s.pre enc C.prog fn conds apart w args ∧ X w args) ∧ sizedMet enc C.prog fn (OpenSpec.ofChange s) apart w args) (s.post enc C.prog fn apart fresh handsOn again) := by
  refine returnsInHanded_of_calls own started noInit witness ?_
  intro w tape i _ hsh _ hok hpre _
  obtain ⟨_, _, _, fn', hfn', _, _, _, _, hval⟩ := hok
  have e : fn' = fn := Option.some.inj (hfn'.symm.trans hfn)
  subst e
  obtain ⟨⟨⟨ds, gs, before, hw, _⟩, hx⟩, _⟩ := hpre
  have hw' := DataW.Whole.of_heap (w' := w.forCall tape i) (by rfl) hw
  refine (contract (w.forCall tape i) w.heap.size i.args ds gs before hval hw' (hX _ _ _ (by rfl) hx) hsh).mono fun e W' ⟨v, he, hp⟩ => ?_
  subst he
  exact ChangeSpec.post_blind hp

variable {P : Program}

/-- Package variables, whole or a part of each, that read as these rows. -/
def Reads (W : World) (H0 : Heap) : Prop := ∀ b ob, H0 b = some ob → ∃ us : List Value, ob = .ro us ∧ us ≠ [] ∧ (∀ u ∈ us, u.oneCell' = true) ∧ ∀ (j : Nat) u, us[j]? = some u → W.cell? ⟨b, j, none⟩ = some u

theorem inv_start_ro {W : World} {H0 : Heap} (h : Reads W H0) : Inv W (comOf W) H0 W := by
  refine ⟨Below.refl _ _, fun _ _ _ h => h, fun b ob e => ?_⟩
  obtain ⟨us, rfl, h0, h1, h2⟩ := h b ob e
  refine ⟨trivial, ?_, h1, fun j u hu => h2 j u hu⟩
  cases us with
  | nil => exact absurd rfl h0
  | cons u us => exact World.block_lt_of_cell? W ⟨b, 0, none⟩ (h2 0 u rfl)

theorem law_contract2 {H : Type} {enc : TypeId × Value → H} {f : FuncId} {fn : Func} {s : ChangeSpec} {ts : List TypeId} {ss : List Sh} {rt : TypeId} {n : Nat} (hfn : P.funcs[f]? = some fn) (hts : fn.params.toList = ts) (hss : (ts.mapM fun t => shOf P n t) = some ss) (hrt : fn.resultTypes = #[rt]) (hbool : P.underlying rt = some .bool)
    (hvars : s.vars = []) (hspec : ∀ ds : List (DataW H), ds.length = ts.length → s.fn H ds = { results := [.lit (.bool true)], args := ds }) (hl : laidOutB P = true) (hread : (ts.all fun t => P.readableRec t && decide (t < P.types.size)) = true)
    (W : World) {H0 : Heap} (hH0 : Reads W H0)
    (hlaw : ∀ as, fitsAll ss as → ∃ K, AOk P f as H0 (.sc (.bool true)) K)
    (base : Nat) (args : Array Value) (ds gs : List (DataW H)) (before : List MemPlace)
    (hval : ∀ (j : Nat) t v, fn.params[j]? = some t → args[j]? = some v → Value.okWide P W .any base t v) (hW : DataW.Whole enc P fn.params.toList s.vars false W args.toList ds gs before) :
    Calls P f args W fun e W' => ∃ v, e = .returned v ∧ s.post enc P fn false true false false W args v W' := by
  have hlt := hW.lt
  have hW' := hW
  obtain ⟨p, q, hA, hV, rfl, hfz, hnd⟩ := hW
  rw [hvars] at hV
  have hV' := hV
  cases gs with
  | cons g gs => exact hV.elim
  | nil =>
  obtain rfl : q = [] := hV
  obtain ⟨hdl, as, hfit, hrel⟩ := open_args (r := .any) (base := base) hss (fun j t v ht hv => hval j t v (by rw [← hts] at ht; simpa using ht) (by simpa using hv)) (hts ▸ hA)
  obtain ⟨K, hlaw⟩ := hlaw as hfit
  have hcall := hlaw W (comOf W) W args.toList (inv_start_ro hH0) hrel
  rw [Array.toArray_toList] at hcall
  refine (hcall.calls (Array.getElem?_eq_some_iff.1 hfn).1).mono fun e W' ⟨r, H', C', v, he, ⟨hr, _⟩, _, hv, hinv⟩ => ?_
  subst hr
  obtain rfl := hv.sc_inv
  refine ⟨_, he, ds, [], p ++ [], [], p, [], hW', ?_, ?_, ?_, ?_, fun h => by cases h⟩
  · simp only [List.append_nil]
    rw [hspec ds hdl, hrt]
    exact ⟨[], [], ⟨1, by simp [DataW.trod, Value.cells, hbool]⟩, rfl, rfl⟩
  · simp only [List.append_nil]
    rw [hspec ds hdl, hts]
    rw [hts] at hA
    exact stay_args hl hinv.below hread hA (fun x hx => hlt x (by simp [hx])) fun x hx => by simpa using hlt x (by simp [hx])
  · rw [hvars]
    simp only [List.append_nil]
    rw [hspec ds hdl]
    exact rfl
  · exact World.keptBut_mono (fun x hx => hx) (hinv.below.frame _)

end Rg
