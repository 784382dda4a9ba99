/- What a law's arguments are. What a law's arguments are: expressions, clocks. A row that lists one package variable alone. A row that lists two tables: the bits' and the powers of ten. How long a zone's row may be, as an argument. -/
import Derived.Test.YtmoncokklkiikaaGreatDoorP13
import Derived.Test.YtmoncokklkiikaaGreatDoorP24
import Derived.Test.YtmoncokklkiikaaGreatDoorTie
import Derived.Test.YtmoncokklkiikaaGreatDoorCards
import Derived.Test.YtmoncokklkiikaaGreatDoorP15
import Derived.Test.YtmoncokklkiikaaGreatDoorP19
import Derived.Test.YtmoncokklkiikaaGreatDoorP21
import Derived.Test.YtmoncokklkiikaaGreatDoorP09
set_option linter.unusedSimpArgs false
set_option linter.unusedVariables false
set_option linter.unnecessarySimpa false
namespace Go.Proofs.YtmoncokklkiikaaGreatDoor
open Rg Go Go.RowKit
theorem laidOut : laidOutB Tryz.prog = true := by kernel_rfl
theorem fits_i64 {a : AV} (h : fits (.int .i64) a) : ∃ n : Int, a = .sc (.int .i64 n) ∧ -9223372036854775808 ≤ n ∧ n ≤ 9223372036854775807 := by
  simp only [fits] at h
  obtain ⟨n, rfl, h⟩ := h
  exact ⟨n, rfl, by simpa [Lit.wf, IntKind.min, IntKind.max, IntKind.bits, IntKind.signed] using h⟩
theorem fits_u64 {a : AV} (h : fits (.int .u64) a) : ∃ n : Nat, a = .sc (.int .u64 (n : Int)) ∧ n < 18446744073709551616 := by
  simp only [fits] at h
  obtain ⟨n, rfl, h⟩ := h
  have h2 : 0 ≤ n ∧ n ≤ 18446744073709551615 := by simpa [Lit.wf, IntKind.min, IntKind.max, IntKind.bits, IntKind.signed] using h
  obtain ⟨m, rfl⟩ := Int.eq_ofNat_of_zero_le h2.1
  exact ⟨m, rfl, by omega⟩
theorem fits_fld {a : AV} (h : fits (.st [.int .u64, .bool]) a) : ∃ f : Fld, a = fAV f ∧ f.bits < 18446744073709551616 := by
  simp only [fits] at h
  obtain ⟨cs, rfl, h⟩ := h
  simp only [fitsL] at h
  obtain ⟨x, r, rfl, hx, y, r2, rfl, hy, rfl⟩ := h
  obtain ⟨n, rfl, hn⟩ := fits_u64 hx
  simp only [fits] at hy
  obtain ⟨b, rfl⟩ := hy
  exact ⟨⟨n, b⟩, by simp [AV.cells, fAV], hn⟩
theorem bool_type : Tryz.prog.underlying 4 = some .bool := by kernel_rfl
end Go.Proofs.YtmoncokklkiikaaGreatDoor
namespace Go.Proofs.YtmoncokklkiikaaGreatDoor
open Rg Go
theorem fits_expr {a : AV} (h : fits (.st (List.replicate 5 (.st [.int .u64, .bool]))) a) : ∃ x : Ex, a = exAV x ∧ x.ok := by
  simp only [fits, List.replicate] at h
  obtain ⟨cs, rfl, h⟩ := h
  simp only [fitsL] at h
  obtain ⟨a0, r0, rfl, h0, a1, r1, rfl, h1, a2, r2, rfl, h2, a3, r3, rfl, h3, a4, r4, rfl, h4, rfl⟩ := h
  obtain ⟨f0, rfl, g0⟩ := fits_fld h0
  obtain ⟨f1, rfl, g1⟩ := fits_fld h1
  obtain ⟨f2, rfl, g2⟩ := fits_fld h2
  obtain ⟨f3, rfl, g3⟩ := fits_fld h3
  obtain ⟨f4, rfl, g4⟩ := fits_fld h4
  exact ⟨⟨f0, f1, f2, f3, f4⟩, by simp [AV.cells, fAV], ⟨g0, g1, g2, g3, g4⟩⟩
end Go.Proofs.YtmoncokklkiikaaGreatDoor
namespace Go.Proofs.YtmoncokklkiikaaGreatDoor
open Rg Go Go.RowKit
end Go.Proofs.YtmoncokklkiikaaGreatDoor
namespace Go.Proofs.YtmoncokklkiikaaGreatDoor
open Rg Go Go.RowKit
theorem eq_pow : (Rows.laid_internal_strconv_uint64pow10 : DataW Unit) = Lib.tabData .u64 Lib.pow10Tab := by kernel_rfl
def powUs : List Value := Lib.pow10Tab.map fun z => Value.int .u64 z
def groZ : Heap := fun b => if b = 0 then some (.ro ctzUs) else if b = 1 then some (.ro powUs) else none
theorem globZ_gro : GlobZ groZ := by
  refine ⟨⟨ctzUs, rfl, fun j hj => ?_⟩, rfl⟩
  simp only [ctzUs, List.getElem?_map, List.getD_eq_getElem?_getD, List.getElem?_eq_getElem hj]
  rfl
theorem pow_whole {W : World} {l : List (String × DataW Unit)} (hL : laidMet Tryz.prog l W) (h1 : ("internal/strconv.uint64pow10", Rows.laid_internal_strconv_uint64pow10) ∈ l) : ∃ T fr, W.heap[1]? = some (.cells powUs.toArray T fr) := by
  obtain ⟨g, t, cs, fuel, p, hg, hty, hvar, hd⟩ := Lib.laidMet.reads hL h1
  obtain rfl : 1 = g := Option.some.inj ((show Tryz.prog.globalNamed "internal/strconv.uint64pow10" = some 1 by kernel_rfl).symm.trans hg)
  obtain rfl : 287 = t := Option.some.inj ((show (Tryz.prog.globals[1]?).map (·.type) = some 287 by kernel_rfl).symm.trans hty)
  rw [eq_pow] at hd
  have hcs := Lib.cells_of_tab (e := 22) (n := 20) (by kernel_rfl) (by kernel_rfl) (by kernel_rfl) (by kernel_rfl) hd
  unfold World.var? at hvar
  rw [hg] at hvar
  simp only [Option.bind_some] at hvar
  split at hvar
  · rename_i cs' T fr hh
    cases hvar
    refine ⟨T, fr, ?_⟩
    rw [hh]
    congr 2
    rw [← Array.toList_inj, hcs]
    rfl
  · cases hvar
theorem groZ_reads {W : World} {l : List (String × DataW Unit)} (hL : laidMet Tryz.prog l W) (h1 : ("math/bits.deBruijn64tab", Rows.laid_math_bits_deBruijn64tab) ∈ l) (h2 : ("internal/strconv.uint64pow10", Rows.laid_internal_strconv_uint64pow10) ∈ l) : Reads W groZ := by
  refine fun b ob e => ?_
  unfold groZ at e
  split at e
  · rename_i hb
    subst hb; cases e
    exact ⟨ctzUs, rfl, by decide +kernel, by decide +kernel, ctz_reads hL h1, fun h => absurd h (by decide +kernel)⟩
  · split at e
    · rename_i hb
      subst hb; cases e
      obtain ⟨T, fr, hw⟩ := pow_whole hL h2
      refine ⟨powUs, rfl, by simp [powUs, Lib.pow10Tab], by simp [powUs, Value.oneCell'], fun j u hu => ?_, fun _ => ⟨T, fr, hw⟩⟩
      unfold World.cell?
      simp only [hw]
      simpa using hu
    · cases e
theorem fits_chs : ∀ {xs : List AV}, (∀ x ∈ xs, fits (.st [.int .i64, .int .i64]) x) → ∃ L : List (Int × Int), xs = L.map chAV ∧ ∀ c ∈ L, -9223372036854775808 ≤ c.1 ∧ c.1 ≤ 9223372036854775807 ∧ -9223372036854775808 ≤ c.2 ∧ c.2 ≤ 9223372036854775807
  | [], _ => ⟨[], rfl, by simp⟩
  | x :: r, h => by
    have hx := h x (by simp)
    rw [fits] at hx
    obtain ⟨cs, rfl, hx⟩ := hx
    simp only [fitsL] at hx
    obtain ⟨a0, r0, rfl, h0, a1, r1, rfl, h1, rfl⟩ := hx
    obtain ⟨a, rfl, ha⟩ := fits_i64 h0
    obtain ⟨b, rfl, hb⟩ := fits_i64 h1
    obtain ⟨L, rfl, hL⟩ := fits_chs (xs := r) fun y hy => h y (List.mem_cons_of_mem _ hy)
    refine ⟨(a, b) :: L, by simp [AV.cells], fun c hc => ?_⟩
    rcases List.mem_cons.1 hc with e | hc
    · subst e; exact ⟨ha.1, ha.2, hb.1, hb.2⟩
    · exact hL c hc
theorem fits_zone {a : AV} (h : fits (.st [.int .i64, .sl (.st [.int .i64, .int .i64])]) a) : ∃ z : Zn, a = zAV z .no ∧ -9223372036854775808 ≤ z.first ∧ z.first ≤ 9223372036854775807 := by
  rw [fits] at h
  obtain ⟨cs, rfl, h⟩ := h
  simp only [fitsL] at h
  obtain ⟨a0, r0, rfl, h0, a1, r1, rfl, h1, rfl⟩ := h
  obtain ⟨f, rfl, hf⟩ := fits_i64 h0
  rw [fits] at h1
  obtain ⟨xs, rfl, _, h1⟩ := h1
  obtain ⟨L, rfl, _⟩ := fits_chs h1
  exact ⟨⟨f, L⟩, by simp [AV.cells], hf.1, hf.2⟩
end Go.Proofs.YtmoncokklkiikaaGreatDoor
namespace Go.Proofs.YtmoncokklkiikaaGreatDoor
open Rg Go Go.RowKit Go.ChangeShapes
noncomputable def zoneTB : Bool := match Tryz.prog.underlying 55 with
  | some (.struct fs) => fs.toList.map (·.type) == [3, 53] && fs.toList.map (·.offset) == [0, 1]
  | _ => false
theorem zoneTB_ok : zoneTB = true := by kernel_rfl
theorem zoneT : ∃ fs : Array Field, Tryz.prog.underlying 55 = some (.struct fs) ∧ (fs.toList.map (·.type)) = [3, 53] ∧ (fs.toList.map (·.offset)) = [0, 1] := by
  have h := zoneTB_ok
  unfold zoneTB at h
  split at h
  · rename_i fs hu
    simp only [Bool.and_eq_true, beq_iff_eq] at h
    exact ⟨fs, hu, h.1, h.2⟩
  · cases h
theorem chsT : Tryz.prog.underlying 53 = some (.slice 69) := by kernel_rfl
theorem chsC : Tryz.prog.cellsOf 53 = 1 := by kernel_rfl
theorem chB : Tryz.prog.bytesOf 69 = 16 := by kernel_rfl
theorem zone_bound {H : Type} {enc : TypeId × Value → H} {fn : Func} {s : ChangeSpec} {W : World} {args : Array Value} {ts : List TypeId} (hts : fn.params.toList = 55 :: ts) (h : SizedIn enc Tryz.prog fn s false W args) {z : Zn} {r : List AV} (hr : RelL (comOf W) (zAV z .no :: r) args.toList) : z.l.length ≤ 8796093022208 := by
  obtain ⟨ds, gs, before, ⟨p, q, hA, _⟩, hw⟩ := h
  rw [hts] at hA hw
  obtain ⟨v, vs', d, ds', a, b, e1, rfl, _, h1, h2⟩ := trodAll_cons hA
  rw [e1] at hr
  obtain ⟨v', vs'', e2, hv, _⟩ := hr.uncons
  cases e2
  obtain ⟨fs, hu, hft, hfo⟩ := zoneT
  obtain ⟨fuel, hf⟩ := h1
  obtain ⟨xs, n, rfl, hx, hcl, hxl, hat⟩ := DataW.trod_struct hu hf
  have hfs : fs.size = 2 := by have := congrArg List.length hft; simpa using this
  obtain ⟨us, rfl, hc, hone⟩ := hv.agg_inv
  obtain ⟨u0, us1, rfl, hu0, hc⟩ := hc.uncons
  obtain ⟨u1, us2, rfl, hu1, hc⟩ := hc.uncons
  obtain rfl := hc.nil_inv
  have hcs : (Value.agg [u0, u1].toArray).cells.toList = [u0, u1] := rfl
  rw [hcs] at hat
  have h1t : fs[1]?.map (·.type) = some 53 := by
    have := congrArg (fun l => l[1]?) hft
    simpa using this
  have h1o : fs[1]?.map (·.offset) = some 1 := by
    have := congrArg (fun l => l[1]?) hfo
    simpa using this
  obtain ⟨f1, hf1, ht1⟩ := Option.map_eq_some_iff.1 h1t
  rw [hf1] at h1o
  simp only [Option.map_some, Option.some.injEq] at h1o
  have hx1 := hat 1 f1 hf1
  rw [ht1, h1o, chsC] at hx1
  simp only [List.drop_succ_cons, List.drop_zero, List.take_succ_cons, List.take_zero] at hx1
  have hxl2 : xs.length = 2 := by rw [hxl, hfs]
  match xs, hxl2 with
  | [x0, x1], _ =>
    simp only [List.getElem?_cons_succ, List.getElem?_cons_zero] at hx1
    have hd : d = .agg [x0.1, x1.1] := congrArg Prod.fst hx
    subst hd
    have e1 : DataW.weights Tryz.prog 55 (.agg [x0.1, x1.1]) = DataW.weightsEach Tryz.prog (fs.toList.map (·.type)) [x0.1, x1.1] := by
      rw [DataW.weights.eq_def]
      simp only [hu]
    rw [List.cons_append, List.cons_append, DataW.weightsEach, e1, hft] at hw
    simp only [DataW.weightsEach, List.append_nil, List.all_append, Bool.and_eq_true] at hw
    have hw1 := hw.1.2
    obtain ⟨sa, sc, hsl, _, _⟩ := hu1.sl_form
    rw [List.length_map] at hsl
    rcases DataW.trod_slice chsT hx1 with ⟨h3, _⟩ | ⟨a', len, cap, elems, rest, m, hm, h3, h4, _, _, _, hel, _, _, _⟩
    · rw [hsl] at h3
      simp at h3
      rw [h3.2.1]
      simp
    · rw [hsl] at h3
      simp only [List.cons.injEq, Value.slice.injEq, and_true] at h3
      rw [h4, DataW.weights.eq_def] at hw1
      simp only [chsT] at hw1
      simp only [List.all_cons, Bool.and_eq_true, decide_eq_true_eq, List.length_map, chB] at hw1
      have := hw1.1
      unfold reachBytes at this
      omega
end Go.Proofs.YtmoncokklkiikaaGreatDoor
