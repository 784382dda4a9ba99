/- Each operation on abstract values is what the model does: those that only give a value. -/
import Derived.Test.YtdpgnbinekcgdaaGreatDoorRgB
namespace Rg
open Go Go.RowKit

variable {P : Program} {W0 : World} {C : Com} {H : Heap} {w : World}

/-- The run gives a value that reads as r; more may be committed; the objects are as they were. -/
def VOk (P : Program) (W0 : World) (C : Com) (H : Heap) (w : World) (e : Sem Value) (r : AV) : Prop :=
  ∃ v w' C', e.run P w = .ok v w' ∧ Rel C' r v ∧ CLe C C' ∧ Inv W0 C' H w'

theorem VOk.same {e : Sem Value} {r : AV} {v : Value} (hi : Inv W0 C H w) (h : e.run P w = .ok v w) (hr : Rel C r v) : VOk P W0 C H w e r :=
  ⟨v, w, C, h, hr, CLe.refl C, hi⟩

theorem acells_spec {x : AV} {v : Value} {cs : List AV} {o : Nat} (hi : Inv W0 C H w) (hv : Rel C x v) (h : acellsAt x H = some (cs, o)) :
    ∃ b k us, v = .pointer (some ⟨b, k + o, none⟩) ∧ RelL C cs us ∧ (∀ u ∈ us, u.oneCell' = true) ∧ ∀ j u, us[j]? = some u → w.cell? ⟨b, k + j, none⟩ = some u := by
  unfold acellsAt at h
  split at h
  · rename_i cs' o'
    cases h
    unfold Rel at hv
    cases hv with
    | ip b k o h1 h2 h3 _ => exact ⟨b, k, _, rfl, h1, h2, fun j u hu => hi.com _ _ _ (h3 j u hu)⟩
  · rename_i b o'
    split at h
    · rename_i cs' hH
      cases h
      obtain rfl := hv.sc_inv
      cases hob : H b with
      | none => rw [hob] at hH; cases hH
      | some ob =>
        rw [hob] at hH
        cases ob with
        | cells cs2 T =>
          cases hH
          obtain ⟨_, us, h1, h2, h3, _⟩ := hi.obj _ _ hob
          refine ⟨b, 0, us, by simp, h2, h3, fun j u hu => ?_⟩
          rw [Nat.zero_add, cell_of_row w b j _ T (0, 0) h1]
          simpa using hu
        | ro us =>
          cases hH
          obtain ⟨_, h1, h2, h3⟩ := hi.obj _ _ hob
          refine ⟨b, 0, us, by simp, ?_, h2, fun j u hu => ?_⟩
          · clear h1 h2 h3 hob
            induction us with
            | nil => exact .nil
            | cons u us ih => exact .sc u (ih trivial)
          · rw [Nat.zero_add]; exact hi.com _ _ _ (h3 j u hu)
        | «open» n cap sz T => cases hH
        | dfr => cases hH
        | lrec r => cases hH
    · cases h
  · cases h

theorem addr_add (b o n : Nat) : Addr.add ⟨b, o, none⟩ n = ⟨b, o + n, none⟩ := Addr.add_lit b o n

theorem run_loadVar_agg {T : TypeId} {sz : Nat} (ha : tagg P T = some true) (hs : tsize P T = some sz) (b o : Nat) (us : List Value) (hl : us.length = sz)
    (hc : ∀ j u, us[j]? = some u → w.cell? ⟨b, o + j, none⟩ = some u) : (loadVar T ⟨b, o, none⟩).run P w = .ok (.agg us.toArray) w := by
  have h1 := run_loadCells_list (P := P) w ⟨b, o, none⟩ us (fun j v hv => by rw [addr_add]; exact hc j v hv)
  rw [hl] at h1
  simp [loadVar, Sem.run_bind, run_isAgg ha, run_sizeOf hs, h1]

theorem run_loadVar_one {T : TypeId} (ha : tagg P T = some false) (b o : Nat) (u : Value) (hc : w.cell? ⟨b, o, none⟩ = some u) : (loadVar T ⟨b, o, none⟩).run P w = .ok u w := by
  simp [loadVar, Sem.run_bind, run_isAgg ha, load, Sem.run, hc]

theorem s_load {T : TypeId} {x r : AV} {v : Value} (hi : Inv W0 C H w) (hv : Rel C x v) (h : aload P T x H = .val r) : VOk P W0 C H w (Instr.loadAt T v) r := by
  unfold aload at h
  split at h
  · rename_i cs o hc
    obtain ⟨b, k, us, rfl, h1, h2, h3⟩ := acells_spec hi hv hc
    split at h
    · rename_i ha
      split at h
      · rename_i sz hs
        split at h
        · rename_i hle
          cases h
          have hl := h1.length
          refine VOk.same hi (v := .agg ((us.drop o).take sz).toArray) ?_ ?_
          · simp only [Instr.loadAt, Instr.sureAddr, Sem.run_bind, Sem.run_pure, Result.andThen_ok]
            refine run_loadVar_agg ha hs b (k + o) _ (by simp; omega) fun j u hu => ?_
            have hu' : us[o + j]? = some u := by
              rw [List.getElem?_take] at hu
              split at hu
              · simpa using hu
              · cases hu
            rw [Nat.add_assoc]
            exact h3 _ _ hu'
          · exact RelL.agg ((h1.drop o).take sz) (fun u hu => h2 u (List.mem_of_mem_drop (List.mem_of_mem_take hu))) .nil
        · cases h
      · cases h
    · rename_i ha
      split at h
      · rename_i c hcc
        cases h
        obtain ⟨u, hu, hr⟩ := h1.get hcc
        refine VOk.same hi (v := u) ?_ hr
        simp only [Instr.loadAt, Instr.sureAddr, Sem.run_bind, Sem.run_pure, Result.andThen_ok]
        exact run_loadVar_one ha b (k + o) u (h3 _ _ hu)
      · cases h
    · cases h
  · cases h

theorem eqv_spec {op : BinOp} {b : Bool} {r : AV} (h : eqv op b = .val r) : (op = .eql ∧ r = .sc (.bool b)) ∨ (op = .neq ∧ r = .sc (.bool !b)) := by
  unfold eqv at h
  split at h
  · cases h; exact .inl ⟨rfl, rfl⟩
  · cases h; exact .inr ⟨rfl, rfl⟩
  · cases h

theorem ibin_run {op : BinOp} {k : IntKind} {a b : Int} {r : AV} (hs : isShift op = false) (h : ibin op k a b = .val r) (T : TypeId) : ∃ v, r = .sc v ∧ (binOp op T (.int k a) (.int k b)).run P w = .ok v w := by
  cases op <;> simp only [ibin, ASR.val.injEq] at h <;> try (subst h)
  case quo =>
    split at h
    · cases h
    · cases h
      exact ⟨_, rfl, by simp [binOp, Op.intDiv, *]⟩
  case rem =>
    split at h
    · cases h
    · cases h
      exact ⟨_, rfl, by simp [binOp, Op.intDiv, *]⟩
  all_goals first
    | (cases hs; done)
    | (cases h; done)
    | exact ⟨_, rfl, by simp [binOp, Op.intArith, Op.intCmp, Op.intBits, bits]; done⟩

theorem ishift_run {op : BinOp} {k k' : IntKind} {a b : Int} {r : AV} (h : ishift op k a b = .val r) (T : TypeId) : ∃ v, r = .sc v ∧ (binOp op T (.int k a) (.int k' b)).run P w = .ok v w := by
  unfold ishift at h
  split at h
  · cases h
  · rename_i hb
    split at h
    · cases h; exact ⟨_, rfl, by simp [binOp, Op.shift, hb]⟩
    · cases h; exact ⟨_, rfl, by simp [binOp, Op.shift, hb]⟩
    · cases h

theorem sbin_run {op : BinOp} {a b : ByteArray} {r : AV} (h : sbin op a b = .val r) (T : TypeId) : ∃ v, r = .sc v ∧ (binOp op T (.string a) (.string b)).run P w = .ok v w := by
  unfold sbin at h
  split at h
  · split at h
    · rename_i hle
      cases h
      refine ⟨_, rfl, ?_⟩
      have : ¬ (((a.size + b.size : Nat) : Int) > IntKind.i64.max) := by rw [IntKind.max_i64]; omega
      simp only [binOp, Op.stringOp, this, if_false, Sem.run_pure]
    · cases h
  all_goals first
    | (cases h; done)
    | (cases h; exact ⟨_, rfl, by simp [binOp, Op.stringOp]⟩)

theorem tkd_bool {T : TypeId} (h : tkd P T = 1) : P.underlying T = some .bool := by unfold tkd at h; split at h <;> simp_all
theorem tkd_string {T : TypeId} (h : tkd P T = 3) : P.underlying T = some .string := by unfold tkd at h; split at h <;> simp_all
theorem tkd_ptr {T : TypeId} (h : tkd P T = 4) : ∃ e, P.underlying T = some (.pointer e) := by unfold tkd at h; split at h <;> simp_all
theorem tkd_slice {T : TypeId} (h : tkd P T = 5) : ∃ e, P.underlying T = some (.slice e) := by unfold tkd at h; split at h <;> simp_all
theorem tkd_func {T : TypeId} (h : tkd P T = 7) : ∃ a b c, P.underlying T = some (.func a b c) := by unfold tkd at h; split at h <;> simp_all

theorem run_eq_of {op : BinOp} {T : TypeId} {a b : Value} {t : Bool} {r : AV} (hint : ∀ k n, a ≠ .int k n) (hf : ∀ k n, a ≠ .float k n) (hc : ∀ k n m, a ≠ .complex k n m) (hst : ∀ s, a ≠ .string s)
    (he : (Op.equal T a b).run P w = .ok t w) (h : eqv op t = .val r) : ∃ v, r = .sc v ∧ (binOp op T a b).run P w = .ok v w := by
  rcases eqv_spec h with ⟨rfl, rfl⟩ | ⟨rfl, rfl⟩
  · refine ⟨_, rfl, ?_⟩
    have : binOp .eql T a b = (do pure (.bool (← Op.equal T a b))) := by
      cases a <;> first | rfl | exact absurd rfl (hint _ _) | exact absurd rfl (hf _ _) | exact absurd rfl (hc _ _ _) | exact absurd rfl (hst _)
    rw [this]; simp [Sem.run_bind, he]
  · refine ⟨_, rfl, ?_⟩
    have : binOp .neq T a b = (do pure (.bool (!(← Op.equal T a b)))) := by
      cases a <;> first | rfl | exact absurd rfl (hint _ _) | exact absurd rfl (hf _ _) | exact absurd rfl (hc _ _ _) | exact absurd rfl (hst _)
    rw [this]; simp [Sem.run_bind, he]

theorem equal_one (T : TypeId) (a b : Value) : Op.equal T a b = Op.equalIn (9999 + 1) T a b := rfl

theorem equal_ptr {T e : TypeId} (hu : P.underlying T = some (.pointer e)) (a : Option Addr) : (Op.equal T (.pointer a) (.pointer none)).run P w = .ok a.isNone w := by
  rw [equal_one]
  generalize 9999 = d
  cases a <;> simp [Op.equalIn, run_underlying hu]

theorem equal_slice {T e : TypeId} (hu : P.underlying T = some (.slice e)) (a : Option Addr) (n c : Nat) : (Op.equal T (.slice a n c) (.slice none 0 0)).run P w = .ok a.isNone w := by
  rw [equal_one]
  generalize 9999 = d
  cases a <;> simp [Op.equalIn, run_underlying hu]

theorem equal_bool {T : TypeId} (hu : P.underlying T = some .bool) (a b : Bool) : (Op.equal T (.bool a) (.bool b)).run P w = .ok (a == b) w := by
  rw [equal_one]
  generalize 9999 = d
  simp [Op.equalIn, run_underlying hu]

theorem equal_func {T : TypeId} {x y : Array TypeId} {z : Bool} (hu : P.underlying T = some (.func x y z)) (f : Fn) (a b : Array Value) : (Op.equal T (.func f a b) .nilFunc).run P w = .ok false w := by
  rw [equal_one]
  generalize 9999 = d
  simp [Op.equalIn, run_underlying hu]

theorem equal_nilFunc {T : TypeId} {x y : Array TypeId} {z : Bool} (hu : P.underlying T = some (.func x y z)) : (Op.equal T .nilFunc .nilFunc).run P w = .ok true w := by
  rw [equal_one]
  generalize 9999 = d
  simp [Op.equalIn, run_underlying hu]

theorem s_bin {op : BinOp} {T : TypeId} {x y r : AV} {u v : Value} (hi : Inv W0 C H w) (hx : Rel C x u) (hy : Rel C y v) (h : abin P op T x y = .val r) (ox oy : Operand) :
    VOk P W0 C H w (do eqGuard op T ox oy u v; binOp op T u v) r := by
  suffices hs : (∃ z, r = .sc z ∧ (binOp op T u v).run P w = .ok z w) ∧ eqGuard op T ox oy u v = pure () by
    obtain ⟨⟨z, rfl, hz⟩, hg⟩ := hs
    exact VOk.same hi (v := z) (by rw [hg]; simpa [Sem.run_bind] using hz) (Rel.sc z)
  unfold abin at h
  split at h
  · obtain rfl := hx.sc_inv; obtain rfl := hy.sc_inv
    refine ⟨?_, eqGuard_at_int ..⟩
    split at h
    · exact ishift_run h T
    · split at h
      · rename_i hs hk
        subst hk
        exact ibin_run (by simpa using hs) h T
      · cases h
  · obtain rfl := hx.sc_inv; obtain rfl := hy.sc_inv
    exact ⟨sbin_run h T, eqGuard_at_string ..⟩
  · obtain rfl := hx.sc_inv; obtain rfl := hy.sc_inv
    split at h
    · rename_i hk
      exact ⟨run_eq_of (by simp) (by simp) (by simp) (by simp) (equal_bool (tkd_bool hk) _ _) h, eqGuard_at_bool ..⟩
    · cases h
  · obtain rfl := hx.sc_inv; obtain rfl := hy.sc_inv
    split at h
    · rename_i hk
      obtain ⟨e, hu⟩ := tkd_ptr hk
      exact ⟨run_eq_of (by simp) (by simp) (by simp) (by simp) (equal_ptr hu _) h, eqGuard_at_pointer ..⟩
    · cases h
  · obtain rfl := hx.sc_inv; obtain rfl := hy.sc_inv
    split at h
    · rename_i hk
      obtain ⟨e, hu⟩ := tkd_ptr hk
      exact ⟨run_eq_of (by simp) (by simp) (by simp) (by simp) (equal_ptr hu _) h, eqGuard_at_pointer ..⟩
    · cases h
  · obtain rfl := hy.sc_inv
    unfold Rel at hx
    cases hx
    split at h
    · rename_i hk
      obtain ⟨e, hu⟩ := tkd_ptr hk
      exact ⟨run_eq_of (by simp) (by simp) (by simp) (by simp) (equal_ptr hu _) h, eqGuard_at_pointer ..⟩
    · cases h
  · rename_i xs t
    have hyv : v = .slice none 0 0 := by
      unfold Rel at hy
      cases hy with
      | nils t ht _ => rfl
      | emp t a cap ht _ _ => rcases ht with ht | ht | ⟨ht, _⟩ <;> cases ht
      | sl t b o cap sz h1 h2 h3 h4 h5 h6 h7 _ => exact h7.elim
    subst hyv
    split at h
    · rename_i hk
      obtain ⟨e, hu⟩ := tkd_slice hk
      split at h
      · rename_i b hb
        obtain ⟨a, cap, rfl, _⟩ := Rel.sl_form hx
        have hab : a.isNone = b := by
          unfold Rel at hx
          cases t <;> simp [Tok.isNil] at hb <;> subst hb
          · generalize hz : Value.slice a xs.length cap = z at hx
            cases hx with
            | nils t ht _ => cases hz; rfl
            | emp t a cap ht _ _ => rcases ht with ht | ht | ⟨ht, _⟩ <;> cases ht
            | sl t b o cap sz h1 h2 h3 h4 h5 h6 h7 _ => exact h7.elim
          · generalize hz : Value.slice a xs.length cap = z at hx
            cases hx with
            | nils t ht _ => cases ht
            | emp t a cap ht _ _ => cases hz; rfl
            | sl t b o cap sz h1 h2 h3 h4 h5 h6 h7 _ => cases hz; rfl
          · generalize hz : Value.slice a xs.length cap = z at hx
            cases hx with
            | nils t ht _ => cases ht
            | emp t a cap ht _ _ => rcases ht with ht | ht | ⟨ht, _⟩ <;> cases ht
            | sl t b o cap sz h1 h2 h3 h4 h5 h6 h7 _ => cases hz; rfl
        subst hab
        exact ⟨run_eq_of (by simp) (by simp) (by simp) (by simp) (equal_slice hu _ _ _) h, eqGuard_at_slice ..⟩
      · cases h
    · cases h
  · obtain rfl := hx.sc_inv; obtain rfl := hy.sc_inv
    split at h
    · rename_i hk
      obtain ⟨a, b, c, hu⟩ := tkd_func hk
      exact ⟨run_eq_of (by simp) (by simp) (by simp) (by simp) (equal_nilFunc hu) h, eqGuard_at_nilFunc ..⟩
    · cases h
  · obtain rfl := hx.sc_inv; obtain rfl := hy.sc_inv
    split at h
    · rename_i hk
      obtain ⟨a, b, c, hu⟩ := tkd_func hk
      exact ⟨run_eq_of (by simp) (by simp) (by simp) (by simp) (equal_func hu _ _ _) h, eqGuard_at_func ..⟩
    · cases h
  · cases h
  · cases h

theorem s_un {op : UnOp} {x r : AV} {u : Value} (hi : Inv W0 C H w) (hx : Rel C x u) (h : aun op x = .val r) : VOk P W0 C H w (Op.unary op u) r := by
  unfold aun at h
  split at h
  · obtain rfl := hx.sc_inv
    split at h
    · cases h; exact VOk.same hi (by simp [Op.unary]) (Rel.sc _)
    · cases h
  · obtain rfl := hx.sc_inv
    split at h
    · cases h; exact VOk.same hi (by simp [Op.unary, Op.intArith]) (Rel.sc _)
    · cases h; exact VOk.same hi (by simp [Op.unary, Op.intBits, bits]) (Rel.sc _)
    · cases h
  · cases h

theorem s_nil {x r : AV} {u : Value} (hi : Inv W0 C H w) (hx : Rel C x u) (h : anil x = .val r) : ∃ a, u = .pointer (some a) ∧ Rel C r u := by
  unfold anil at h
  split at h
  · obtain rfl := hx.sc_inv; cases h; exact ⟨_, rfl, hx⟩
  · cases h
    have hk := hx
    unfold Rel at hx
    cases hx
    exact ⟨_, rfl, hk⟩
  · cases h

end Rg
