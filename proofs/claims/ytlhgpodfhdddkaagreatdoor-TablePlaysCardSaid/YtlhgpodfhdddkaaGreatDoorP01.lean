/- Each operation on abstract values is what the model does: those that only give a value. Each operation on abstract values is what the model does, on. Each operation on abstract values is what the model does, on. -/
import Derived.Test.YtlhgpodfhdddkaaGreatDoorP00
import Derived.Laws.StructEq
import Derived.ChangeKeysEq
set_option linter.unusedSimpArgs false
set_option linter.unusedVariables false
set_option linter.unnecessarySimpa false
namespace Rg
open Go Go.RowKit
variable {P : Program} {W0 : World} {C : Com} {H : Heap} {w : World}
def VOk (P : Program) (W0 : World) (C : Com) (H : Heap) (w : World) (e : Sem Value) (r : AV) : Prop :=
  ∃ v w' C', e.run P w = .ok v w' ∧ Rel C' r v ∧ CLe C C' ∧ Inv W0 C' H w'
theorem VOk.same {e : Sem Value} {r : AV} {v : Value} (hi : Inv W0 C H w) (h : e.run P w = .ok v w) (hr : Rel C r v) : VOk P W0 C H w e r :=
  ⟨v, w, C, h, hr, CLe.refl C, hi⟩
theorem acells_spec {x : AV} {v : Value} {cs : List AV} {o : Nat} (hi : Inv W0 C H w) (hv : Rel C x v) (h : acellsAt x H = some (cs, o)) :
    ∃ b k us, v = .pointer (some ⟨b, k + o, none⟩) ∧ RelL C cs us ∧ (∀ u ∈ us, u.oneCell' = true) ∧ ∀ j u, us[j]? = some u → w.cell? ⟨b, k + j, none⟩ = some u := by
  unfold acellsAt at h
  split at h
  · rename_i cs' o'
    cases h
    unfold Rel at hv
    cases hv with
    | ip b k o h1 h2 h3 _ => exact ⟨b, k, _, rfl, h1, h2, fun j u hu => hi.com _ _ _ (h3 j u hu)⟩
  · rename_i b o'
    split at h
    · rename_i cs' hH
      cases h
      obtain rfl := hv.sc_inv
      cases hob : H b with
      | none => rw [hob] at hH; cases hH
      | some ob =>
        rw [hob] at hH
        cases ob with
        | cells cs2 T =>
          cases hH
          obtain ⟨_, us, h1, h2, h3, _⟩ := hi.obj _ _ hob
          refine ⟨b, 0, us, by simp, h2, h3, fun j u hu => ?_⟩
          rw [Nat.zero_add, cell_of_row w b j _ T (0, 0) h1]
          simpa using hu
        | ro us =>
          cases hH
          obtain ⟨hb0, h1, h2, h3⟩ := hi.obj _ _ hob
          refine ⟨b, 0, us, by simp, ?_, h2, fun j u hu => ?_⟩
          · clear hb0 h1 h2 h3 hob
            induction us with
            | nil => exact .nil
            | cons u us ih => exact .sc u ih
          · rw [Nat.zero_add]; exact hi.com _ _ _ (h3 j u hu)
        | «open» n cap sz T => cases hH
        | dfr => cases hH
        | lrec r => cases hH
        | map es ck => cases hH
        | iter m since seen last => cases hH
    · cases h
  · cases h
theorem addr_add (b o n : Nat) : Addr.add ⟨b, o, none⟩ n = ⟨b, o + n, none⟩ := Addr.add_lit b o n
theorem run_loadVar_agg {T : TypeId} {sz : Nat} (ha : tagg P T = some true) (hs : tsize P T = some sz) (b o : Nat) (us : List Value) (hl : us.length = sz)
    (hc : ∀ j u, us[j]? = some u → w.cell? ⟨b, o + j, none⟩ = some u) : (loadVar T ⟨b, o, none⟩).run P w = .ok (.agg us.toArray) w := by
  have h1 := run_loadCells_list (P := P) w ⟨b, o, none⟩ us (fun j v hv => by rw [addr_add]; exact hc j v hv)
  rw [hl] at h1
  simp [loadVar, Sem.run_bind, run_isAgg ha, run_sizeOf hs, h1]
theorem run_loadVar_one {T : TypeId} (ha : tagg P T = some false) (b o : Nat) (u : Value) (hc : w.cell? ⟨b, o, none⟩ = some u) : (loadVar T ⟨b, o, none⟩).run P w = .ok u w := by
  simp [loadVar, Sem.run_bind, run_isAgg ha, load, Sem.run, hc]
theorem s_load {T : TypeId} {x r : AV} {v : Value} (hi : Inv W0 C H w) (hv : Rel C x v) (h : aload P T x H = .val r) : VOk P W0 C H w (Instr.loadAt T v) r := by
  unfold aload at h
  split at h
  · rename_i cs o hc
    obtain ⟨b, k, us, rfl, h1, h2, h3⟩ := acells_spec hi hv hc
    split at h
    · rename_i ha
      split at h
      · rename_i sz hs
        split at h
        · rename_i hle
          cases h
          have hl := h1.length
          refine VOk.same hi (v := .agg ((us.drop o).take sz).toArray) ?_ ?_
          · simp only [Instr.loadAt, Instr.sureAddr, Sem.run_bind, Sem.run_pure, Result.andThen_ok]
            refine run_loadVar_agg ha hs b (k + o) _ (by simp; omega) fun j u hu => ?_
            have hu' : us[o + j]? = some u := by
              rw [List.getElem?_take] at hu
              split at hu
              · simpa using hu
              · cases hu
            rw [Nat.add_assoc]
            exact h3 _ _ hu'
          · exact RelL.agg ((h1.drop o).take sz) (fun u hu => h2 u (List.mem_of_mem_drop (List.mem_of_mem_take hu))) .nil
        · cases h
      · cases h
    · rename_i ha
      split at h
      · rename_i c hcc
        cases h
        obtain ⟨u, hu, hr⟩ := h1.get hcc
        refine VOk.same hi (v := u) ?_ hr
        simp only [Instr.loadAt, Instr.sureAddr, Sem.run_bind, Sem.run_pure, Result.andThen_ok]
        exact run_loadVar_one ha b (k + o) u (h3 _ _ hu)
      · cases h
    · cases h
  · cases h
theorem eqv_spec {op : BinOp} {b : Bool} {r : AV} (h : eqv op b = .val r) : (op = .eql ∧ r = .sc (.bool b)) ∨ (op = .neq ∧ r = .sc (.bool !b)) := by
  unfold eqv at h
  split at h
  · cases h; exact .inl ⟨rfl, rfl⟩
  · cases h; exact .inr ⟨rfl, rfl⟩
  · cases h
theorem ibin_run {op : BinOp} {k : IntKind} {a b : Int} {r : AV} (hs : isShift op = false) (h : ibin op k a b = .val r) (T : TypeId) : ∃ v, r = .sc v ∧ (binOp op T (.int k a) (.int k b)).run P w = .ok v w := by
  cases op <;> simp only [ibin, ASR.val.injEq] at h <;> try (subst h)
  case quo =>
    split at h
    · cases h
    · cases h
      exact ⟨_, rfl, by simp [binOp, Op.intDiv, *]⟩
  case rem =>
    split at h
    · cases h
    · cases h
      exact ⟨_, rfl, by simp [binOp, Op.intDiv, *]⟩
  all_goals first
    | (cases hs; done)
    | (cases h; done)
    | exact ⟨_, rfl, by simp [binOp, Op.intArith, Op.intCmp, Op.intBits, bits]; done⟩
theorem ishift_run {op : BinOp} {k k' : IntKind} {a b : Int} {r : AV} (h : ishift op k a b = .val r) (T : TypeId) : ∃ v, r = .sc v ∧ (binOp op T (.int k a) (.int k' b)).run P w = .ok v w := by
  unfold ishift at h
  split at h
  · cases h
  · rename_i hb
    split at h
    · cases h; exact ⟨_, rfl, by simp [binOp, Op.shift, hb]⟩
    · cases h; exact ⟨_, rfl, by simp [binOp, Op.shift, hb]⟩
    · cases h
theorem sbin_run {op : BinOp} {a b : ByteArray} {r : AV} (h : sbin op a b = .val r) (T : TypeId) : ∃ v, r = .sc v ∧ (binOp op T (.string a) (.string b)).run P w = .ok v w := by
  unfold sbin at h
  split at h
  · split at h
    · rename_i hle
      cases h
      refine ⟨_, rfl, ?_⟩
      have : ¬ (((a.size + b.size : Nat) : Int) > IntKind.i64.max) := by rw [IntKind.max_i64]; omega
      simp only [binOp, Op.stringOp, this, if_false, Sem.run_pure]
    · cases h
  all_goals first
    | (cases h; done)
    | (cases h; exact ⟨_, rfl, by simp [binOp, Op.stringOp]⟩)
theorem tkd_bool {T : TypeId} (h : tkd P T = 1) : P.underlying T = some .bool := by unfold tkd at h; split at h <;> simp_all
theorem tkd_string {T : TypeId} (h : tkd P T = 3) : P.underlying T = some .string := by unfold tkd at h; split at h <;> simp_all
theorem tkd_ptr {T : TypeId} (h : tkd P T = 4) : ∃ e, P.underlying T = some (.pointer e) := by unfold tkd at h; split at h <;> simp_all
theorem tkd_slice {T : TypeId} (h : tkd P T = 5) : ∃ e, P.underlying T = some (.slice e) := by unfold tkd at h; split at h <;> simp_all
theorem tkd_func {T : TypeId} (h : tkd P T = 7) : ∃ a b c, P.underlying T = some (.func a b c) := by unfold tkd at h; split at h <;> simp_all
theorem tkd_iface {T : TypeId} (h : tkd P T = 8) : P.underlying T = some (.interface (P.methodsAt T)) := by
  unfold Program.methodsAt
  unfold tkd at h
  split at h <;> simp_all
theorem run_eq_of {op : BinOp} {T : TypeId} {a b : Value} {t : Bool} {r : AV} (hint : ∀ k n, a ≠ .int k n) (hf : ∀ k n, a ≠ .float k n) (hc : ∀ k n m, a ≠ .complex k n m) (hst : ∀ s, a ≠ .string s)
    (he : (Op.equal T a b).run P w = .ok t w) (h : eqv op t = .val r) : ∃ v, r = .sc v ∧ (binOp op T a b).run P w = .ok v w := by
  rcases eqv_spec h with ⟨rfl, rfl⟩ | ⟨rfl, rfl⟩
  · refine ⟨_, rfl, ?_⟩
    have : binOp .eql T a b = (do pure (.bool (← Op.equal T a b))) := by
      cases a <;> first | rfl | exact absurd rfl (hint _ _) | exact absurd rfl (hf _ _) | exact absurd rfl (hc _ _ _) | exact absurd rfl (hst _)
    rw [this]; simp [Sem.run_bind, he]
  · refine ⟨_, rfl, ?_⟩
    have : binOp .neq T a b = (do pure (.bool (!(← Op.equal T a b)))) := by
      cases a <;> first | rfl | exact absurd rfl (hint _ _) | exact absurd rfl (hf _ _) | exact absurd rfl (hc _ _ _) | exact absurd rfl (hst _)
    rw [this]; simp [Sem.run_bind, he]
theorem equal_one (T : TypeId) (a b : Value) : Op.equal T a b = Op.equalIn (9999 + 1) T a b := rfl
theorem equal_ptr {T e : TypeId} (hu : P.underlying T = some (.pointer e)) (a : Option Addr) : (Op.equal T (.pointer a) (.pointer none)).run P w = .ok a.isNone w := by
  rw [equal_one]
  generalize 9999 = d
  cases a <;> simp [Op.equalIn, run_underlying hu]
theorem equal_slice {T e : TypeId} (hu : P.underlying T = some (.slice e)) (a : Option Addr) (n c : Nat) : (Op.equal T (.slice a n c) (.slice none 0 0)).run P w = .ok a.isNone w := by
  rw [equal_one]
  generalize 9999 = d
  cases a <;> simp [Op.equalIn, run_underlying hu]
theorem equal_bool {T : TypeId} (hu : P.underlying T = some .bool) (a b : Bool) : (Op.equal T (.bool a) (.bool b)).run P w = .ok (a == b) w := by
  rw [equal_one]
  generalize 9999 = d
  simp [Op.equalIn, run_underlying hu]
theorem equal_func {T : TypeId} {x y : Array TypeId} {z : Bool} (hu : P.underlying T = some (.func x y z)) (f : Fn) (a b : Array Value) : (Op.equal T (.func f a b) .nilFunc).run P w = .ok false w := by
  rw [equal_one]
  generalize 9999 = d
  simp [Op.equalIn, run_underlying hu]
theorem equal_nilFunc {T : TypeId} {x y : Array TypeId} {z : Bool} (hu : P.underlying T = some (.func x y z)) : (Op.equal T .nilFunc .nilFunc).run P w = .ok true w := by
  rw [equal_one]
  generalize 9999 = d
  simp [Op.equalIn, run_underlying hu]
theorem tkd_map {T : TypeId} (h : tkd P T = 6) : ∃ k e, P.underlying T = some (.map k e) := by
  unfold tkd at h
  split at h <;> simp_all
theorem equal_map {T k e : TypeId} (hu : P.underlying T = some (.map k e)) (a : Option Nat) : (Op.equal T (.map a) (.map none)).run P w = .ok a.isNone w := by
  rw [equal_one]
  generalize 9999 = d
  cases a <;> simp [Op.equalIn, run_underlying hu]
theorem s_bin {op : BinOp} {T : TypeId} {x y r : AV} {u v : Value} (hi : Inv W0 C H w) (hx : Rel C x u) (hy : Rel C y v) (h : abin P op T x y = .val r) (ox oy : Operand) :
    VOk P W0 C H w (do eqGuard op T ox oy u v; binOp op T u v) r := by
  suffices hs : (∃ z, r = .sc z ∧ (binOp op T u v).run P w = .ok z w) ∧ eqGuard op T ox oy u v = pure () by
    obtain ⟨⟨z, rfl, hz⟩, hg⟩ := hs
    exact VOk.same hi (v := z) (by rw [hg]; simpa [Sem.run_bind] using hz) (Rel.sc z)
  unfold abin at h
  split at h
  · obtain rfl := hx.sc_inv; obtain rfl := hy.sc_inv
    refine ⟨?_, eqGuard_at_int ..⟩
    split at h
    · exact ishift_run h T
    · split at h
      · rename_i hs hk
        subst hk
        exact ibin_run (by simpa using hs) h T
      · cases h
  · obtain rfl := hx.sc_inv; obtain rfl := hy.sc_inv
    exact ⟨sbin_run h T, eqGuard_at_string ..⟩
  · obtain rfl := hx.sc_inv; obtain rfl := hy.sc_inv
    split at h
    · rename_i hk
      exact ⟨run_eq_of (by simp) (by simp) (by simp) (by simp) (equal_bool (tkd_bool hk) _ _) h, eqGuard_at_bool ..⟩
    · cases h
  · obtain rfl := hx.sc_inv; obtain rfl := hy.sc_inv
    split at h
    · rename_i hk
      obtain ⟨e, hu⟩ := tkd_ptr hk
      exact ⟨run_eq_of (by simp) (by simp) (by simp) (by simp) (equal_ptr hu _) h, eqGuard_at_pointer ..⟩
    · cases h
  · obtain rfl := hx.sc_inv; obtain rfl := hy.sc_inv
    split at h
    · rename_i hk
      obtain ⟨e, hu⟩ := tkd_ptr hk
      exact ⟨run_eq_of (by simp) (by simp) (by simp) (by simp) (equal_ptr hu _) h, eqGuard_at_pointer ..⟩
    · cases h
  · obtain rfl := hy.sc_inv
    unfold Rel at hx
    cases hx
    split at h
    · rename_i hk
      obtain ⟨e, hu⟩ := tkd_ptr hk
      exact ⟨run_eq_of (by simp) (by simp) (by simp) (by simp) (equal_ptr hu _) h, eqGuard_at_pointer ..⟩
    · cases h
  · rename_i xs t
    have hyv : v = .slice none 0 0 := by
      unfold Rel at hy
      cases hy with
      | nils t ht _ => rfl
      | emp t a cap ht _ _ => rcases ht with ht | ht | ⟨ht, _⟩ <;> cases ht
      | sl t b o cap sz h1 h2 h3 h4 h5 h6 h7 _ => exact h7.elim
    subst hyv
    split at h
    · rename_i hk
      obtain ⟨e, hu⟩ := tkd_slice hk
      split at h
      · rename_i b hb
        obtain ⟨a, cap, rfl, _⟩ := Rel.sl_form hx
        have hab : a.isNone = b := by
          unfold Rel at hx
          cases t <;> simp [Tok.isNil] at hb <;> subst hb
          · generalize hz : Value.slice a xs.length cap = z at hx
            cases hx with
            | nils t ht _ => cases hz; rfl
            | emp t a cap ht _ _ => rcases ht with ht | ht | ⟨ht, _⟩ <;> cases ht
            | sl t b o cap sz h1 h2 h3 h4 h5 h6 h7 _ => exact h7.elim
          · generalize hz : Value.slice a xs.length cap = z at hx
            cases hx with
            | nils t ht _ => cases ht
            | emp t a cap ht _ _ => cases hz; rfl
            | sl t b o cap sz h1 h2 h3 h4 h5 h6 h7 _ => cases hz; rfl
          · generalize hz : Value.slice a xs.length cap = z at hx
            cases hx with
            | nils t ht _ => cases ht
            | emp t a cap ht _ _ => rcases ht with ht | ht | ⟨ht, _⟩ <;> cases ht
            | sl t b o cap sz h1 h2 h3 h4 h5 h6 h7 _ => cases hz; rfl
        subst hab
        exact ⟨run_eq_of (by simp) (by simp) (by simp) (by simp) (equal_slice hu _ _ _) h, eqGuard_at_slice ..⟩
      · cases h
    · cases h
  · obtain rfl := hx.sc_inv; obtain rfl := hy.sc_inv
    split at h
    · rename_i hk
      obtain ⟨a, b, c, hu⟩ := tkd_func hk
      exact ⟨run_eq_of (by simp) (by simp) (by simp) (by simp) (equal_nilFunc hu) h, eqGuard_at_nilFunc ..⟩
    · cases h
  · obtain rfl := hx.sc_inv; obtain rfl := hy.sc_inv
    split at h
    · rename_i hk
      obtain ⟨a, b, c, hu⟩ := tkd_func hk
      exact ⟨run_eq_of (by simp) (by simp) (by simp) (by simp) (equal_func hu _ _ _) h, eqGuard_at_func ..⟩
    · cases h
  · obtain rfl := hx.sc_inv; obtain rfl := hy.sc_inv
    split at h
    · rename_i hk
      exact ⟨run_eq_of (by simp) (by simp) (by simp) (by simp) (run_equal_held_nil w T _ _ (tkd_iface hk)) h, by unfold eqGuard; split <;> rfl⟩
    · cases h
  · cases h
  · obtain rfl := hx.sc_inv; obtain rfl := hy.sc_inv
    split at h
    · rename_i hk
      obtain ⟨k, e, hu⟩ := tkd_map hk
      exact ⟨run_eq_of (by simp) (by simp) (by simp) (by simp) (equal_map hu _) h, by unfold eqGuard; split <;> rfl⟩
    · cases h
  · obtain rfl := hx.sc_inv; obtain rfl := hy.sc_inv
    split at h
    · rename_i hk
      obtain ⟨k, e, hu⟩ := tkd_map hk
      exact ⟨run_eq_of (by simp) (by simp) (by simp) (by simp) (equal_map hu _) h, by unfold eqGuard; split <;> rfl⟩
    · cases h
  · cases h
theorem s_un {op : UnOp} {x r : AV} {u : Value} (hi : Inv W0 C H w) (hx : Rel C x u) (h : aun op x = .val r) : VOk P W0 C H w (Op.unary op u) r := by
  unfold aun at h
  split at h
  · obtain rfl := hx.sc_inv
    split at h
    · cases h; exact VOk.same hi (by simp [Op.unary]) (Rel.sc _)
    · cases h
  · obtain rfl := hx.sc_inv
    split at h
    · cases h; exact VOk.same hi (by simp [Op.unary, Op.intArith]) (Rel.sc _)
    · cases h; exact VOk.same hi (by simp [Op.unary, Op.intBits, bits]) (Rel.sc _)
    · cases h
  · cases h
theorem s_nil {x r : AV} {u : Value} (hi : Inv W0 C H w) (hx : Rel C x u) (h : anil x = .val r) : ∃ a, u = .pointer (some a) ∧ Rel C r u := by
  unfold anil at h
  split at h
  · obtain rfl := hx.sc_inv; cases h; exact ⟨_, rfl, hx⟩
  · cases h
    have hk := hx
    unfold Rel at hx
    cases hx
    exact ⟨_, rfl, hk⟩
  · cases h
end Rg
namespace Rg
open Go Go.RowKit
variable {P : Program} {W0 : World} {C : Com} {H : Heap} {w : World}
theorem tint_spec {T : TypeId} {k : IntKind} (h : tint P T = some k) : P.underlying T = some (.int k) := by
  unfold tint at h; split at h <;> simp_all
theorem rel_bytes (bs : List UInt8) : RelL C ((bs.map fun c => AV.sc (.int .u8 c.toNat)).flatMap AV.cells) (bs.map fun c => Value.int .u8 c.toNat) := by
  induction bs with
  | nil => exact .nil
  | cons b bs ih => simpa [AV.cells] using RelL.sc _ ih
theorem abytes_spec : ∀ {xs : List AV} {bs : List UInt8} {us : List Value}, abytes xs = some bs → RelL C (xs.flatMap AV.cells) us → us = bs.map fun c => Value.int .u8 c.toNat
  | [], bs, us, h, hr => by
    simp [abytes] at h
    subst h
    exact hr.nil_inv
  | x :: xs, bs, us, h, hr => by
    unfold abytes at h
    split at h
    · rename_i h0; cases h0
    · rename_i n r h0
      cases h0
      split at h
      · rename_i hn
        obtain ⟨bs', hb, rfl⟩ := Option.map_eq_some_iff.1 h
        obtain ⟨u, us', rfl, hu, hr'⟩ := RelL.uncons (a := .sc (.int .u8 n)) (as := xs.flatMap AV.cells) hr
        rw [abytes_spec hb hr', hu.sc_inv, List.map_cons]
        have : ((UInt8.ofNat n.toNat).toNat : Int) = n := by
          rw [UInt8.toNat_ofNat', Nat.mod_eq_of_lt (by omega)]
          exact Int.toNat_of_nonneg hn.1
        rw [this]
      · cases h
    · cases h
theorem s_convB {s d : TypeId} {xs : List AV} {t : Tok} {r : AV} {u : Value} (hi : Inv W0 C H w) (hx : Rel C (.sl xs t) u) (h : aconv P s d (.sl xs t) = .val r) : VOk P W0 C H w (convert s d u) r := by
  simp only [aconv] at h
  · split at h
    · rename_i hk
      split at h
      · rename_i e bs he hbs
        split at h
        · rename_i hte
          cases h
          have hu := tkd_string hk
          have hs := telem_spec he
          have hue := tint_spec hte
          have hnil : xs = [] → bs = [] := by rintro rfl; simp [abytes] at hbs; exact hbs
          unfold Rel at hx
          cases hx with
          | nils t ht _ =>
            rw [hnil rfl]
            refine VOk.same hi (v := .string ⟨#[]⟩) ?_ (Rel.sc _)
            simp [convert, run_underlying hs, run_underlying hu, run_underlying hue, Conv.bytesToString]
            rfl
          | emp t a cap ht hm _ =>
            rw [hnil rfl]
            exact VOk.same hi (run_convert_bytes_back (P := P) w s d e a cap [] hs hue hu (fun j hj => by simp at hj)) (Rel.sc _)
          | @sl _ _ _ us t b o cap sz h1 h2 h3 h4 h5 h6 h7 _ =>
            have hus := abytes_spec hbs h1
            have hlen : xs.length = bs.length := by
              have e1 := h1.length
              rw [hus, List.length_map] at e1
              rw [← e1]
              clear h1 h4 h5 h7 hus e1
              have : ∀ (xs : List AV) (bs : List UInt8), abytes xs = some bs → xs.length = (xs.flatMap AV.cells).length := by
                intro xs
                induction xs with
                | nil => intro bs _; rfl
                | cons x xs ih =>
                  intro bs hb
                  unfold abytes at hb
                  split at hb
                  · rename_i h0; cases h0
                  · rename_i n r h0
                    cases h0
                    split at hb
                    · obtain ⟨bs', hb', rfl⟩ := Option.map_eq_some_iff.1 hb
                      simp only [List.flatMap_cons, AV.cells, List.length_cons, List.length_append, List.length_nil]
                      rw [ih bs' hb']
                      omega
                    · cases hb
                  · cases hb
              exact this xs bs hbs
            rw [hlen]
            exact VOk.same hi (run_convert_bytes_back (P := P) w s d e ⟨b, o, none⟩ cap bs hs hue hu (fun j hj => by
              rw [addr_add]
              exact hi.com _ _ _ (h4 j _ (by rw [hus]; simp [hj])))) (Rel.sc _)
        · cases h
      · cases h
    · cases h
theorem s_conv {s d : TypeId} {x r : AV} {u : Value} (hi : Inv W0 C H w) (hx : Rel C x u) (h : aconv P s d x = .val r) : VOk P W0 C H w (convert s d u) r := by
  have h00 := h
  unfold aconv at h
  split at h
  · obtain rfl := hx.sc_inv
    split at h
    · rename_i hs
      obtain ⟨ds, hds⟩ := Option.isSome_iff_exists.1 hs
      split at h
      · rename_i k hk
        cases h
        have hu := tint_spec hk
        refine VOk.same hi (v := .int k (k.wrap _)) ?_ (Rel.sc _)
        simp only [convert, Sem.run_bind, run_underlying hds, run_underlying hu, Result.andThen_ok]
        cases ds <;> simp [Conv.intToInt]
      · cases h
    · cases h
  · rename_i b
    obtain rfl := hx.sc_inv
    split at h
    · rename_i hs
      obtain ⟨ds, hds⟩ := Option.isSome_iff_exists.1 hs
      split at h
      · rename_i hk
        cases h
        have hu := tkd_string hk
        refine VOk.same hi (v := .string _) ?_ (Rel.sc _)
        simp only [convert, Sem.run_bind, run_underlying hds, run_underlying hu, Result.andThen_ok]
        cases ds <;> simp
      · split at h
        · rename_i e he
          split at h
          · rename_i hk
            cases h
            have hu := telem_spec he
            obtain ⟨hk, hks, hbm⟩ := hk
            have hrun := run_bytes_of_string (P := P) w s d e b (tkd_string hks) hu (tint_spec hk)
            have hc1 := grownCap_ge w b.size 0 e
            have hc2 := grownCap_le_maxLen w b.size 0 e hbm
            generalize grownCap w b.size 0 e = cap at *
            have hrow : bytesRow b cap = ((b.data.toList.map fun c : UInt8 => Value.int .u8 c.toNat) ++ List.replicate (cap - b.size) (Value.int .u8 0)).toArray := by
              apply Array.toList_inj.1
              simp [bytesRow]
            rw [hrow] at hrun
            obtain ⟨h1, h2⟩ := hi.draw.allocCom (b.data.toList.map fun c => Value.int .u8 c.toNat) (List.replicate (cap - b.size) (.int .u8 0)) e _
            refine ⟨_, _, _, hrun, ?_, h2, h1⟩
            have hsz : b.size = (b.data.toList.map fun c => AV.sc (.int .u8 c.toNat)).length := by rw [List.length_map]; exact Array.length_toList.symm
            rw [hsz] at hc1 ⊢
            refine RelL.sl .no w.heap.size 0 cap 1 (rel_bytes _) (fun x hx => by obtain ⟨c, _, rfl⟩ := List.mem_map.1 hx; rfl) (fun x hx => by obtain ⟨c, _, rfl⟩ := List.mem_map.1 hx; rfl) ?_ hc1 hc2 trivial .nil
            intro j u hu
            exact commit_at hu
          · cases h
        · cases h
    · cases h
  · exact s_convB hi hx h00
  · cases h
theorem bound_spec {d n : Int} {x : Option AV} {o : Option Value} (hr : ∀ a, x = some a → ∃ u, o = some u ∧ Rel C a u) (hn : x = none → o = none) (h : abound d x = some n) :
    (o = none ∧ x = none ∧ n = d) ∨ ∃ k, o = some (.int k n) ∧ x.isSome := by
  unfold abound at h
  split at h
  · cases h; exact .inl ⟨hn rfl, rfl, rfl⟩
  · cases h
    obtain ⟨u, hu, hru⟩ := hr _ rfl
    obtain rfl := hru.sc_inv
    exact .inr ⟨_, hu, rfl⟩
  · cases h
theorem run_sliceBound {k : IntKind} {n : Int} {y : Nat} {code : BoundsCode} (h : 0 ≤ n ∧ n ≤ y) : (Instr.sliceBound (.int k n) y code).run P w = .ok n.toNat w := by
  simp [Instr.sliceBound, asIntOf, Sem.run_bind, h]
def ORel (C : Com) : Option AV → Option Value → Prop
  | none, none => True
  | some a, some v => Rel C a v
  | _, _ => False
theorem ORel.some_iff {x : Option AV} {o : Option Value} (h : ORel C x o) : (∀ a, x = some a → ∃ u, o = some u ∧ Rel C a u) ∧ (x = none → o = none) := by
  cases x <;> cases o <;> simp_all [ORel]
theorem szs_spec {sz : Nat} {xs : List AV} (h : szs sz xs = true) : ∀ x ∈ xs, x.cells.length = sz := by
  unfold szs at h
  intro x hx
  simpa using List.all_eq_true.1 h x hx
theorem flat_length {sz : Nat} {xs : List AV} (h : ∀ x ∈ xs, x.cells.length = sz) : (xs.flatMap AV.cells).length = xs.length * sz := by
  induction xs with
  | nil => simp
  | cons x xs ih =>
    rw [List.flatMap_cons, List.length_append, ih fun y hy => h y (by simp [hy]), h x (by simp), List.length_cons, Nat.add_mul]
    omega
theorem flat_drop {sz : Nat} {xs : List AV} (h : ∀ x ∈ xs, x.cells.length = sz) (n : Nat) : (xs.drop n).flatMap AV.cells = (xs.flatMap AV.cells).drop (n * sz) := by
  induction n generalizing xs with
  | zero => simp
  | succ n ih =>
    cases xs with
    | nil => simp
    | cons x xs =>
      have hx := h x (by simp)
      rw [List.drop_succ_cons, ih fun y hy => h y (by simp [hy]), List.flatMap_cons, Nat.add_mul, Nat.one_mul, Nat.add_comm (n * sz) sz, ← List.drop_drop, ← hx, List.drop_left]
theorem flat_take {sz : Nat} {xs : List AV} (h : ∀ x ∈ xs, x.cells.length = sz) (n : Nat) : (xs.take n).flatMap AV.cells = (xs.flatMap AV.cells).take (n * sz) := by
  induction n generalizing xs with
  | zero => simp
  | succ n ih =>
    cases xs with
    | nil => simp
    | cons x xs =>
      have hx := h x (by simp)
      rw [List.take_succ_cons, List.flatMap_cons, List.flatMap_cons, ih fun y hy => h y (by simp [hy]), Nat.add_mul, Nat.one_mul, Nat.add_comm (n * sz) sz, ← hx]
      rw [List.take_append, List.take_of_length_le (l := x.cells) (by omega), Nat.add_sub_cancel_left]
theorem flat_get {sz : Nat} {xs : List AV} (h : ∀ x ∈ xs, x.cells.length = sz) {i : Nat} {x : AV} (hx : xs[i]? = some x) : x.cells = ((xs.flatMap AV.cells).drop (i * sz)).take sz := by
  rw [← flat_drop h]
  have hlt := (List.getElem?_eq_some_iff.1 hx).1
  have : xs.drop i = x :: xs.drop (i + 1) := by
    rw [List.drop_eq_getElem_cons hlt]
    congr 1
    exact (List.getElem?_eq_some_iff.1 hx).2
  rw [this, List.flatMap_cons, ← h x (List.mem_of_getElem? hx), List.take_left]
theorem s_slice {T : TypeId} {x r : AV} {u : Value} {lo hi' mx : Option AV} {lo' hi'' mx' : Option Value} (hi : Inv W0 C H w) (hx : Rel C x u) (hlo : ORel C lo lo') (hhi : ORel C hi' hi'') (hmx : ORel C mx mx')
    (h : aslice P T x lo hi' mx = .val r) : VOk P W0 C H w (Instr.sliceAt T u lo' hi'' mx') r := by
  unfold aslice at h
  split at h
  · obtain rfl := hx.sc_inv
    rename_i s
    split at h
    · rename_i hk
      obtain ⟨hk, hm⟩ := hk
      have hu := tkd_string hk
      split at h
      · rename_i l h2 hl hh
        split at h
        · rename_i hb
          cases h
          have hmn : mx' = none := by cases mx <;> cases mx' <;> simp_all [ORel]
          subst hmn
          refine VOk.same hi (v := .string _) ?_ (Rel.sc _)
          simp only [Instr.sliceAt, Instr.slice, Sem.run_bind, run_underlying hu, Result.andThen_ok, Option.isSome_none, Bool.false_eq_true, if_false]
          have hhr := bound_spec hhi.some_iff.1 hhi.some_iff.2 hh
          have hlr := bound_spec hlo.some_iff.1 hlo.some_iff.2 hl
          have hb1 : (0 : Int) ≤ h2 ∧ h2 ≤ s.size := ⟨by omega, by omega⟩
          have e1 : (h2.toNat : Int) = h2 := Int.toNat_of_nonneg hb1.1
          have hb2 : (0 : Int) ≤ l ∧ l ≤ h2.toNat := ⟨by omega, by omega⟩
          rcases hhr with ⟨rfl, _, rfl⟩ | ⟨k, rfl, _⟩ <;> rcases hlr with ⟨rfl, _, rfl⟩ | ⟨k', rfl, _⟩
          · simp [Instr.sliceBounds]
          · simp at hb2
            simp [Instr.sliceBounds, Sem.run_bind, run_sliceBound hb2]
          · simp [Instr.sliceBounds, Sem.run_bind, run_sliceBound hb1]
          · simp [Instr.sliceBounds, Sem.run_bind, run_sliceBound hb1, run_sliceBound hb2]
        · cases h
      · cases h
    · cases h
  · rename_i xs t
    split at h
    · rename_i hk
      split at h
      · rename_i l h2 m hl hh hm
        split at h
        · rename_i sz hsz
          split at h
          · rename_i hb
            obtain ⟨hb0, hb1, hb2, hszs, hmm⟩ := hb
            cases h
            cases hte : telem P T with
            | none => rw [hte] at hsz; cases hsz
            | some e =>
            rw [hte] at hsz
            simp at hsz
            have hu := telem_spec hte
            have hszs := szs_spec hszs
            obtain ⟨a, cap, rfl, hcap, hcm⟩ := hx.sl_form
            have hhr := bound_spec hhi.some_iff.1 hhi.some_iff.2 hh
            have hlr := bound_spec hlo.some_iff.1 hlo.some_iff.2 hl
            have hmr := bound_spec hmx.some_iff.1 hmx.some_iff.2 hm
            have e2 : (h2.toNat : Int) = h2 := Int.toNat_of_nonneg (by omega)
            have e1 : (l.toNat : Int) = l := Int.toNat_of_nonneg hb0
            -- the new capacity's end
            have hrun : ∃ M : Nat, h2.toNat ≤ M ∧ M ≤ cap ∧ (mx.isSome → M = h2.toNat) ∧
                (Instr.sliceAt T (.slice a xs.length cap) lo' hi'' mx').run P w = .ok (.slice (if M = l.toNat then a else a.map (·.add (l.toNat * sz))) (h2.toNat - l.toNat) (M - l.toNat)) w := by
              have hA : (0 : Int) ≤ h2 ∧ h2 ≤ cap := ⟨by omega, by omega⟩
              have hL : (0 : Int) ≤ l ∧ l ≤ h2.toNat := ⟨by omega, by omega⟩
              have hM : (0 : Int) ≤ h2 ∧ h2 ≤ h2.toNat := ⟨by omega, by omega⟩
              rcases hmr with ⟨rfl, hmn, _⟩ | ⟨km, rfl, hms⟩
              · refine ⟨cap, by omega, Nat.le_refl _, by simp [hmn], ?_⟩
                simp only [Instr.sliceAt, Instr.slice, Sem.run_bind, run_underlying hu, Result.andThen_ok]
                rcases hhr with ⟨rfl, _, rfl⟩ | ⟨k, rfl, _⟩ <;> rcases hlr with ⟨rfl, _, rfl⟩ | ⟨k', rfl, _⟩
                · simp [Instr.sliceBounds, Sem.run_bind, run_sizeOf hsz]
                · simp at hL
                  simp [Instr.sliceBounds, Sem.run_bind, run_sizeOf hsz, run_sliceBound hL]
                · simp [Instr.sliceBounds, Sem.run_bind, run_sizeOf hsz, run_sliceBound hA]
                · simp [Instr.sliceBounds, Sem.run_bind, run_sizeOf hsz, run_sliceBound hA, run_sliceBound hL]
              · obtain ⟨rfl, hhs⟩ := hmm hms
                refine ⟨m.toNat, Nat.le_refl _, by omega, fun _ => rfl, ?_⟩
                simp only [Instr.sliceAt, Instr.slice, Sem.run_bind, run_underlying hu, Result.andThen_ok]
                rcases hhr with ⟨_, hx', _⟩ | ⟨k, rfl, _⟩
                · rw [hx'] at hhs; cases hhs
                rcases hlr with ⟨rfl, _, rfl⟩ | ⟨k', rfl, _⟩
                · simp [Instr.sliceBounds, Sem.run_bind, run_sizeOf hsz, run_sliceBound hA, run_sliceBound hM]
                · simp [Instr.sliceBounds, Sem.run_bind, run_sizeOf hsz, run_sliceBound hA, run_sliceBound hM, run_sliceBound hL]
            obtain ⟨M, hM1, hM2, hM3, hrun⟩ := hrun
            refine VOk.same hi hrun ?_
            have hlen : ((xs.take h2.toNat).drop l.toNat).length = h2.toNat - l.toNat := by simp; omega
            by_cases hlM : M = l.toNat
            · rw [if_pos hlM]
              have hnil : (xs.take h2.toNat).drop l.toNat = [] := List.eq_nil_of_length_eq_zero (by omega)
              rw [hnil, show h2.toNat - l.toNat = 0 by omega, show M - l.toNat = 0 by omega]
              cases a with
              | none =>
                -- a nil slice
                refine .nils _ ?_ .nil
                cases mx.isSome <;> rfl
              | some a =>
                refine .emp _ a 0 ?_ (by simp [maxLen]) .nil
                cases hms : mx.isSome <;> simp
            · rw [if_neg hlM]
              generalize hz : Value.slice a xs.length cap = z at hx
              unfold Rel at hx
              cases hx with
              | nils t ht _ => cases hz; simp at hb2; omega
              | emp t a cap ht _ _ =>
                cases hz
                simp at hb2
                rw [show h2.toNat - l.toNat = 0 by omega]
                simp only [List.take_nil, List.drop_nil, Option.map_some]
                cases hms : mx.isSome
                · exact .emp _ _ _ (.inl rfl) (by omega) .nil
                · have := hM3 hms; omega
              | @sl _ _ _ us t b o cap sz' h1 h2' h3 h4 h5 h6 h7 _ =>
                cases hz
                by_cases hxs : xs = []
                · subst hxs
                  simp at hb2
                  rw [show h2.toNat - l.toNat = 0 by omega]
                  simp only [List.take_nil, List.drop_nil, Option.map_some]
                  cases hms : mx.isSome
                  · exact .emp _ _ _ (.inl rfl) (by omega) .nil
                  · have := hM3 hms; omega
                have hsz' : sz' = sz := by
                  obtain ⟨y, ys, rfl⟩ := List.exists_cons_of_ne_nil hxs
                  rw [← h2' y (by simp), hszs y (by simp)]
                subst hsz'
                rw [← hlen, Option.map_some, addr_add]
                have hfl : ((xs.take h2.toNat).drop l.toNat).flatMap AV.cells = ((xs.flatMap AV.cells).take (h2.toNat * sz')).drop (l.toNat * sz') := by
                  rw [flat_drop (fun y hy => hszs y (List.mem_of_mem_take hy)), flat_take hszs]
                refine .sl (us := (us.take (h2.toNat * sz')).drop (l.toNat * sz')) _ b (o + l.toNat * sz') (M - l.toNat) sz' (by rw [hfl]; exact (h1.take _).drop _)
                  (fun y hy => hszs y (List.mem_of_mem_take (List.mem_of_mem_drop hy))) (fun v hv => h3 v (List.mem_of_mem_take (List.mem_of_mem_drop hv))) ?_ (by rw [hlen]; omega) (by omega) ?_ .nil
                · intro j v hv
                  rw [List.getElem?_drop, List.getElem?_take] at hv
                  split at hv
                  · rw [Nat.add_assoc]; exact h4 _ _ hv
                  · cases hv
                · cases hms : mx.isSome
                  · trivial
                  · rw [hM3 hms, hlen]; rfl
          · cases h
        · cases h
      · cases h
    · cases h
  · cases h
end Rg
namespace Rg
open Go Go.RowKit
variable {P : Program} {W0 : World} {C : Com} {H : Heap} {w : World}
theorem tfield_spec {S : TypeId} {f off : Nat} {ty : TypeId} (h : tfield P S f = some (off, ty)) : ∃ (fs : Array Field) (d : Field), P.underlying S = some (.struct fs) ∧ fs[f]? = some d ∧ d.offset = off ∧ d.type = ty := by
  unfold tfield at h
  split at h
  · rename_i fs hu
    cases hd : fs[f]? with
    | none => rw [hd] at h; cases h
    | some d => rw [hd] at h; simp at h; exact ⟨fs, d, hu, hd, h.1, h.2⟩
  · cases h
theorem s_faddr {S : TypeId} {x r : AV} {u : Value} {f : Nat} (hi : Inv W0 C H w) (hx : Rel C x u) (h : afaddr P S x f = .val r) : VOk P W0 C H w (Instr.fieldAt S u f) r := by
  unfold afaddr at h
  split at h
  · rename_i off ty hf
    obtain ⟨fs, d, hu, hd, rfl, rfl⟩ := tfield_spec hf
    split at h
    · rename_i sz hsz
      have run : ∀ b o, (Instr.fieldAt S (.pointer (some ⟨b, o, none⟩)) f).run P w = .ok (.pointer (some ⟨b, o + d.offset, none⟩)) w := by
        intro b o
        simp [Instr.fieldAt, Sem.run_bind, run_underlying hu, hd, Instr.sureAddr, fieldPlace, run_sizeOf hsz, addr_add]
      split at h
      · obtain rfl := hx.sc_inv
        cases h
        exact VOk.same hi (run _ _) (Rel.sc _)
      · cases h
        unfold Rel at hx
        cases hx with
        | ip b k o h1 h2 h3 _ =>
          refine VOk.same hi (run _ _) ?_
          rw [Nat.add_assoc]
          exact .ip b k _ h1 h2 h3 .nil
      · cases h
    · cases h
  · cases h
theorem s_part {ty : TypeId} {cs : List AV} {us : List Value} {off : Nat} {r : AV} (hi : Inv W0 C H w) (h1 : RelL C cs us) (h2 : ∀ u ∈ us, u.oneCell' = true) (h : apart P ty cs off = .val r) : VOk P W0 C H w (part ty us.toArray off) r := by
  unfold apart at h
  have hl := h1.length
  split at h
  · rename_i sz ha hs
    split at h
    · rename_i hle
      cases h
      refine VOk.same hi (v := .agg ((us.drop off).take sz).toArray) ?_ (.agg ((h1.drop off).take sz) (fun u hu => h2 u (List.mem_of_mem_drop (List.mem_of_mem_take hu))) .nil)
      simp [part, Sem.run_bind, run_isAgg ha, run_sizeOf hs, List.drop_take, Nat.add_sub_cancel_left]
    · cases h
  · rename_i ha
    split at h
    · rename_i c hc
      cases h
      obtain ⟨u, hu, hr⟩ := h1.get hc
      exact VOk.same hi (v := u) (by simp [part, Sem.run_bind, run_isAgg ha, hu]) hr
    · cases h
  · cases h
theorem part_run {ty : TypeId} {cs : List AV} {us : List Value} {off : Nat} {r : AV} (h1 : RelL C cs us) (h2 : ∀ u ∈ us, u.oneCell' = true) (h : apart P ty cs off = .val r) : ∃ z, (part ty us.toArray off).run P w = .ok z w ∧ Rel C r z := by
  unfold apart at h
  have hl := h1.length
  split at h
  · rename_i sz ha hs
    split at h
    · rename_i hle
      cases h
      refine ⟨.agg ((us.drop off).take sz).toArray, ?_, .agg ((h1.drop off).take sz) (fun u hu => h2 u (List.mem_of_mem_drop (List.mem_of_mem_take hu))) .nil⟩
      simp [part, Sem.run_bind, run_isAgg ha, run_sizeOf hs, List.drop_take, Nat.add_sub_cancel_left]
    · cases h
  · rename_i ha
    split at h
    · rename_i c hc
      cases h
      obtain ⟨u, hu, hr⟩ := h1.get hc
      exact ⟨u, by simp [part, Sem.run_bind, run_isAgg ha, hu], hr⟩
    · cases h
  · cases h
theorem tkd_int {T : TypeId} (h : tkd P T = 2) : ∃ k, P.underlying T = some (.int k) := by unfold tkd at h; split at h <;> simp_all
theorem aeqF_run {d : Nat} {g : TypeId → AV → AV → Option Bool} (hg : ∀ (T : TypeId) (x y : AV) (u v : Value) (b : Bool), Rel C x u → Rel C y v → g T x y = some b → (Op.equalIn d T u v).run P w = .ok b w)
    {xs ys : List AV} {us vs : List Value} (hx : RelL C xs us) (hx1 : ∀ u ∈ us, u.oneCell' = true) (hy : RelL C ys vs) (hy1 : ∀ u ∈ vs, u.oneCell' = true) :
    ∀ (fs : List Field) (b : Bool), aeqF P g xs ys (fs.map fun f => (f.name == "_", f.type, f.offset)) = some b → (Op.eqFields d us.toArray vs.toArray fs).run P w = .ok b w
  | [], b, h => by simp [aeqF] at h; subst h; simp [Op.eqFields]
  | f :: fs, b, h => by
    simp only [List.map_cons, aeqF] at h
    unfold Op.eqFields
    by_cases hn : f.name = "_"
    · rw [if_pos (by simp [hn])] at h
      rw [if_neg (by simp [hn])]
      exact aeqF_run hg hx hx1 hy hy1 fs b h
    · rw [if_neg (by simp [hn])] at h
      rw [if_pos hn]
      split at h
      · rename_i a a' ha ha'
        obtain ⟨z, hz1, hz2⟩ := part_run (w := w) hx hx1 ha
        obtain ⟨z', hz1', hz2'⟩ := part_run (w := w) hy hy1 ha'
        split at h
        · rename_i e e' he he'
          cases h
          have hr := hg _ _ _ _ _ _ hz2 hz2' he
          have hr' := aeqF_run hg hx hx1 hy hy1 fs e' he'
          simp only [Sem.run_bind, hz1, hz1', hr, Result.andThen_ok]
          cases e
          · simp
          · simpa using hr'
        · cases h
      · cases h
theorem aeqI_run {d : Nat} {g : TypeId → AV → AV → Option Bool} (hg : ∀ (T : TypeId) (x y : AV) (u v : Value) (b : Bool), Rel C x u → Rel C y v → g T x y = some b → (Op.equalIn d T u v).run P w = .ok b w)
    {xs ys : List AV} {us vs : List Value} (hx : RelL C xs us) (hx1 : ∀ u ∈ us, u.oneCell' = true) (hy : RelL C ys vs) (hy1 : ∀ u ∈ vs, u.oneCell' = true) {e : TypeId} {c : Nat} :
    ∀ (is : List Nat) (b : Bool), aeqF P g xs ys (is.map fun i => (false, e, i * c)) = some b → (Op.eqItems d e c us.toArray vs.toArray is).run P w = .ok b w
  | [], b, h => by simp [aeqF] at h; subst h; simp [Op.eqItems]
  | i :: is, b, h => by
    simp only [List.map_cons, aeqF] at h
    unfold Op.eqItems
    rw [if_neg (by simp)] at h
    split at h
    · rename_i a a' ha ha'
      obtain ⟨z, hz1, hz2⟩ := part_run (w := w) hx hx1 ha
      obtain ⟨z', hz1', hz2'⟩ := part_run (w := w) hy hy1 ha'
      split at h
      · rename_i e1 e2 he he'
        cases h
        have hr := hg _ _ _ _ _ _ hz2 hz2' he
        have hr' := aeqI_run hg hx hx1 hy hy1 is e2 he'
        simp only [Sem.run_bind, hz1, hz1', hr, Result.andThen_ok]
        cases e1
        · simp
        · simpa using hr'
      · cases h
    · cases h
theorem aeqv_run : ∀ (n d : Nat) (T : TypeId) (x y : AV) (u v : Value) (b : Bool), n ≤ d → Rel C x u → Rel C y v → aeqv P n T x y = some b → (Op.equalIn d T u v).run P w = .ok b w
  | 0, d, T, x, y, u, v, b, hd, hx, hy, h => by cases h
  | n + 1, 0, T, x, y, u, v, b, hd, hx, hy, h => by omega
  | n + 1, d + 1, T, x, y, u, v, b, hd, hx, hy, h => by
    unfold aeqv at h
    split at h
    · obtain rfl := hx.sc_inv
      obtain rfl := hy.sc_inv
      split at h
      · rename_i hk
        cases h
        exact run_equalIn_bool' w d T _ _ (tkd_bool hk)
      · cases h
    · obtain rfl := hx.sc_inv
      obtain rfl := hy.sc_inv
      split at h
      · rename_i hk
        obtain ⟨hk, rfl⟩ := hk
        obtain ⟨k2, hk⟩ := tkd_int hk
        cases h
        exact run_equalIn_int w d T _ k2 _ _ hk
      · cases h
    · obtain rfl := hx.sc_inv
      obtain rfl := hy.sc_inv
      split at h
      · rename_i hk
        cases h
        exact run_equalIn_string w d T _ _ (tkd_string hk)
      · cases h
    · obtain ⟨us, rfl, hx1, hx2⟩ := hx.agg_inv
      obtain ⟨vs, rfl, hy1, hy2⟩ := hy.agg_inv
      split at h
      · rename_i fs hfs
        unfold tfs at hfs
        split at hfs
        · rename_i fs0 hu
          split at hfs
          · rename_i hc
            cases hfs
            have hf : P.fieldsOf T = fs0 := by unfold Program.fieldsOf; rw [hu]
            rw [run_equalIn_struct w d T _ _ (by rw [hf]; exact hu) hc.1, hf]
            exact aeqF_run (fun T x y u v b hx hy h => aeqv_run n d T x y u v b (by omega) hx hy h) hx1 hx2 hy1 hy2 _ _ h
          · cases hfs
        · rename_i len e hu
          split at hfs
          · rename_i hc
            cases hfs
            obtain ⟨i, hi⟩ := Option.isSome_iff_exists.1 hc.2
            rw [run_equalIn_array w d _ _ hu hi]
            exact aeqI_run (fun T x y u v b hx hy h => aeqv_run n d T x y u v b (by omega) hx hy h) hx1 hx2 hy1 hy2 _ _ h
          · cases hfs
        · cases hfs
      · cases h
    · cases h
theorem s_binA {op : BinOp} {T : TypeId} {x y r : AV} {u v : Value} (hi : Inv W0 C H w) (hx : Rel C x u) (hy : Rel C y v) (h : abinA P op T x y = .val r) (ox oy : Operand) :
    VOk P W0 C H w (do eqGuard op T ox oy u v; binOp op T u v) r := by
  unfold abinA at h
  split at h
  · rename_i xs ys
    split at h
    · rename_i fs b hfs hb
      have he := aeqv_run (w := w) 5 10000 T _ _ u v b (by omega) hx hy hb
      obtain ⟨us, rfl, hx1, hx2⟩ := hx.agg_inv
      obtain ⟨vs, rfl, hy1, hy2⟩ := hy.agg_inv
      have hg : P.eqGuardType P.depth T = false := by
        unfold tfs at hfs
        split at hfs
        · split at hfs
          · rename_i hc; exact hc.2
          · cases hfs
        · split at hfs
          · rename_i hc; exact hc.1
          · cases hfs
        · cases hfs
      rcases eqv_spec h with ⟨rfl, rfl⟩ | ⟨rfl, rfl⟩
      · exact VOk.same hi (v := .bool b) (by rw [Sem.run_bind, run_eqGuard_agg w .eql T ox oy _ _ hg, Result.andThen_ok, run_eql_struct, he]; rfl) (Rel.sc _)
      · exact VOk.same hi (v := .bool !b) (by rw [Sem.run_bind, run_eqGuard_agg w .neq T ox oy _ _ hg, Result.andThen_ok, run_neq_struct, he]; rfl) (Rel.sc _)
    · cases h
  · exact s_bin hi hx hy h ox oy
theorem s_binI {op : BinOp} {T : TypeId} {x y r : AV} {u v : Value} (hi : Inv W0 C H w) (hx : Rel C x u) (hy : Rel C y v) (ox oy : Operand) (h : abinI P op T ox oy x y = .val r) :
    VOk P W0 C H w (do eqGuard op T ox oy u v; binOp op T u v) r := by
  unfold abinI at h
  split at h
  · obtain rfl := hx.sc_inv; obtain rfl := hy.sc_inv
    split at h
    · rename_i hk
      have hg : eqGuard op T ox oy .nilIface .nilIface = pure () := by
        have h2 := hk.2
        cases ox <;> cases oy <;> first | (exfalso; simp [isLit] at h2; done) | (cases op <;> rfl)
      obtain ⟨z, rfl, hz⟩ := run_eq_of (by simp) (by simp) (by simp) (by simp) (run_equal_nil_nil w T (tkd_iface hk.1)) h
      exact VOk.same hi (v := z) (by rw [hg]; simpa [Sem.run_bind] using hz) (Rel.sc z)
    · cases h
  · exact s_binA hi hx hy h ox oy
theorem s_field {S : TypeId} {x r : AV} {u : Value} {f : Nat} (hi : Inv W0 C H w) (hx : Rel C x u) (h : afield P S x f = .val r) : VOk P W0 C H w (Instr.field S u f) r := by
  unfold afield at h
  split at h
  · rename_i off ty cs hf
    obtain ⟨fs, d, hu, hd, rfl, rfl⟩ := tfield_spec hf
    obtain ⟨us, rfl, h1, h2⟩ := hx.agg_inv
    obtain ⟨v, w', C', hr, hrel, hC, hI⟩ := s_part hi h1 h2 h
    exact ⟨v, w', C', by simp [Instr.field, Sem.run_bind, run_underlying hu, hd, asAgg, hr], hrel, hC, hI⟩
  · cases h
theorem aint_spec {x : AV} {u : Value} {n : Int} (hx : Rel C x u) (h : aint x = some n) : ∃ k, u = .int k n := by
  unfold aint at h
  split at h
  · cases h; exact ⟨_, hx.sc_inv⟩
  · cases h
theorem flat_at {sz : Nat} {xs : List AV} (h : ∀ x ∈ xs, x.cells.length = sz) {us : List Value} (hr : RelL C (xs.flatMap AV.cells) us) {i : Nat} {y : AV} (hy : xs[i]? = some y) :
    RelL C y.cells ((us.drop (i * sz)).take sz) := by
  rw [flat_get h hy]
  exact (hr.drop _).take _
theorem s_iaddr {T : TypeId} {x i r : AV} {u v : Value} (hi : Inv W0 C H w) (hx : Rel C x u) (hiv : Rel C i v) (h : aiaddr P T x i = .val r) : VOk P W0 C H w (Instr.indexAt T u v) r := by
  unfold aiaddr at h
  split at h
  · rename_i n hn
    obtain ⟨k, rfl⟩ := aint_spec hiv hn
    split at h
    · cases h
    · rename_i hneg
      split at h
      · rename_i xs t
        split at h
        · rename_i e he
          split at h
          · rename_i y hy
            split at h
            · rename_i hsz
              cases h
              have hlt := (List.getElem?_eq_some_iff.1 hy).1
              have hu := telem_spec he
              have hue : P.underlying T = some (.slice (P.elem T)) := by simp [Program.elem, hu]
              unfold Rel at hx
              cases hx with
              | nils => simp at hlt
              | emp => simp at hlt
              | @sl _ _ _ us t b o cap sz h1 h2 h3 h4 h5 h6 h7 _ =>
                have hyl := h2 y (List.mem_of_getElem? hy)
                rw [hyl] at hsz
                refine VOk.same hi (v := .pointer (some ⟨b, o + n.toNat * sz, none⟩)) ?_ ?_
                · have hb : 0 ≤ n ∧ n < (xs.length : Int) := ⟨by omega, by omega⟩
                  simp [Instr.indexAt, asIntOf, Sem.run_bind, run_underlying hu, hb, run_sizeOf hsz, addr_add]
                · have hp := flat_at h2 h1 hy
                  refine RelL.ip (us := (us.drop (n.toNat * sz)).take sz) b (o + n.toNat * sz) 0 hp (fun q hq => h3 q (List.mem_of_mem_drop (List.mem_of_mem_take hq))) ?_ .nil
                  intro j q hq
                  rw [List.getElem?_take] at hq
                  split at hq
                  · rw [List.getElem?_drop] at hq
                    rw [Nat.add_assoc]
                    exact h4 _ _ hq
                  · cases hq
            · cases h
          · cases h
        · cases h
      · rename_i b o len c
        obtain rfl := hx.sc_inv
        split at h
        · rename_i e he
          split at h
          · rename_i sz hsz
            split at h
            · rename_i hlt
              cases h
              have hu := telem_spec he
              refine VOk.same hi ?_ (Rel.sc _)
              have hb : 0 ≤ n ∧ n < (len : Int) := ⟨by omega, by omega⟩
              simp [Instr.indexAt, asIntOf, Sem.run_bind, run_underlying hu, hb, run_sizeOf hsz, addr_add]
            · cases h
          · cases h
        · cases h
      · obtain rfl := hx.sc_inv
        split at h
        · rename_i len e he
          split at h
          · rename_i sz hsz
            split at h
            · rename_i hlt
              cases h
              have hu := tarr_spec he
              refine VOk.same hi ?_ (Rel.sc _)
              have hb : 0 ≤ n ∧ n < (len : Int) := ⟨by omega, by omega⟩
              simp [Instr.indexAt, asIntOf, Sem.run_bind, run_underlying hu, hb, run_sizeOf hsz, addr_add, Instr.sureAddr]
            · cases h
          · cases h
        · cases h
      · rename_i cs o'
        split at h
        · rename_i len e he
          split at h
          · rename_i sz hsz
            split at h
            · rename_i hlt
              cases h
              have hu := tarr_spec he
              unfold Rel at hx
              cases hx with
              | ip b k o h1 h2 h3 _ =>
                refine VOk.same hi (v := .pointer (some ⟨b, k + (o' + n.toNat * sz), none⟩)) ?_ (.ip b k _ h1 h2 h3 .nil)
                have hb : 0 ≤ n ∧ n < (len : Int) := ⟨by omega, by omega⟩
                simp [Instr.indexAt, asIntOf, Sem.run_bind, run_underlying hu, hb, run_sizeOf hsz, addr_add, Instr.sureAddr, Nat.add_assoc]
            · cases h
          · cases h
        · cases h
      · cases h
  · cases h
theorem s_index {T : TypeId} {x i r : AV} {u v : Value} (hi : Inv W0 C H w) (hx : Rel C x u) (hiv : Rel C i v) (h : aindex P T x i = .val r) : VOk P W0 C H w (Instr.index T u v) r := by
  unfold aindex at h
  split at h
  · rename_i n hn
    obtain ⟨k, rfl⟩ := aint_spec hiv hn
    split at h
    · cases h
    · rename_i hneg
      split at h
      · split at h
        · rename_i cs len e he
          split at h
          · rename_i sz hsz
            split at h
            · rename_i hlt
              have hu := tarr_spec he
              obtain ⟨us, rfl, h1, h2⟩ := hx.agg_inv
              obtain ⟨z, w', C', hr, hrel, hC, hI⟩ := s_part hi h1 h2 h
              have hb : 0 ≤ n ∧ n < (len : Int) := ⟨by omega, by omega⟩
              exact ⟨z, w', C', by simp [Instr.index, asIntOf, Sem.run_bind, run_underlying hu, hb, run_sizeOf hsz, hr], hrel, hC, hI⟩
            · cases h
          · cases h
        · cases h
      · rename_i s
        obtain rfl := hx.sc_inv
        split at h
        · rename_i hk
          split at h
          · rename_i b hb
            cases h
            have hu := tkd_string hk
            refine VOk.same hi ?_ (Rel.sc _)
            have h0 : 0 ≤ n := by omega
            have hlt := (List.getElem?_eq_some_iff.1 hb).1
            have hg : s[n.toNat]? = some b := by
              have hsz : n.toNat < s.size := by rw [Array.length_toList] at hlt; exact hlt
              rw [getElem?_pos s n.toNat hsz]
              have hb' := (List.getElem?_eq_some_iff.1 hb).2
              rw [← hb']
              rfl
            simp [Instr.index, asIntOf, Sem.run_bind, run_underlying hu, h0, hg]
          · cases h
        · cases h
      · cases h
  · cases h
theorem s_extract {x r : AV} {u : Value} {i : Nat} (hi : Inv W0 C H w) (hx : Rel C x u) (h : aextract x i = .val r) : VOk P W0 C H w (Instr.extract u i) r := by
  unfold aextract at h
  split at h
  · split at h
    · rename_i c hc
      cases h
      obtain ⟨us, rfl, h1⟩ := hx.tup_inv
      obtain ⟨v, hv, hr⟩ := h1.get hc
      exact VOk.same hi (v := v) (by simp [Instr.extract, hv]) hr
    · cases h
  · cases h
theorem s_len {T : TypeId} {x r : AV} {u : Value} {ty : TypeId} {ts : Array TypeId} (hi : Inv W0 C H w) (hx : Rel C x u) (h : alen P T x = .val r) (ht : ts.toList = [T]) : VOk P W0 C H w (Builtin.len_ ts ty #[u]) r := by
  have ht' : ts = #[T] := by apply Array.toList_inj.1; simpa using ht
  subst ht'
  unfold alen at h
  split at h
  · split at h
    · rename_i xs t hk
      cases h
      obtain ⟨e, hu⟩ := tkd_slice hk
      obtain ⟨a, cap, rfl, _, _⟩ := hx.sl_form
      exact VOk.same hi (by simp [Builtin.len_, Sem.run_bind, run_underlying hu, goInt]) (Rel.sc _)
    · cases h
  · obtain rfl := hx.sc_inv
    split at h
    · rename_i hk
      cases h
      exact VOk.same hi (by simp [Builtin.len_, Sem.run_bind, run_underlying (tkd_string hk), goInt]) (Rel.sc _)
    · cases h
  · obtain rfl := hx.sc_inv
    split at h
    · rename_i hk
      cases h
      obtain ⟨e, hu⟩ := tkd_slice hk
      exact VOk.same hi (by simp [Builtin.len_, Sem.run_bind, run_underlying hu, goInt]) (Rel.sc _)
    · cases h
  · cases h
theorem s_fold {f : AV → AV → Option AV} {g : Value → Value → Sem Value} (hfg : ∀ x y z u v, f x y = some z → Rel C x u → Rel C y v → ∃ q, (g u v).run P w = .ok q w ∧ Rel C z q) :
    ∀ (ys : List AV) (vs : List Value) (x r : AV) (u : Value), Rel C x u → RelL C ys vs → afold f x ys = .val r → ∃ q, (vs.foldlM g u).run P w = .ok q w ∧ Rel C r q
  | [], vs, x, r, u, hx, hy, h => by
    cases hy
    simp [afold] at h
    subst h
    exact ⟨u, by simp, hx⟩
  | y :: ys, vs, x, r, u, hx, hy, h => by
    obtain ⟨v, vs', rfl, hv, hr⟩ := hy.uncons
    simp only [afold] at h
    split at h
    · rename_i z hz
      obtain ⟨q, hq, hqr⟩ := hfg _ _ _ _ _ hz hx hv
      obtain ⟨q', hq', hr'⟩ := s_fold hfg ys vs' z r q hqr hr h
      exact ⟨q', by simp [List.foldlM_cons, Sem.run_bind, hq, hq'], hr'⟩
    · cases h
theorem amin2_spec (x y z : AV) (u v : Value) (h : amin2 x y = some z) (hx : Rel C x u) (hy : Rel C y v) : ∃ q, (Builtin.min2 u v).run P w = .ok q w ∧ Rel C z q := by
  unfold amin2 at h
  split at h
  · obtain rfl := hx.sc_inv; obtain rfl := hy.sc_inv; cases h
    exact ⟨_, by simp [Builtin.min2], Rel.sc _⟩
  · cases h
theorem amax2_spec (x y z : AV) (u v : Value) (h : amax2 x y = some z) (hx : Rel C x u) (hy : Rel C y v) : ∃ q, (Builtin.max2 u v).run P w = .ok q w ∧ Rel C z q := by
  unfold amax2 at h
  split at h
  · obtain rfl := hx.sc_inv; obtain rfl := hy.sc_inv; cases h
    exact ⟨_, by simp [Builtin.max2], Rel.sc _⟩
  · cases h
theorem lies_cells {x : AV} {v : Value} (h : Rel C x v) (hl : x.lies = true) : RelL C x.cells v.cells.toList ∧ ∀ u ∈ v.cells.toList, u.oneCell' = true :=
  h.cells (fun cs e => by subst e; simp [AV.lies] at hl) (fun y e => by subst e; exact hl)
def vset : List Value → Nat → List Value → List Value
  | cs, _, [] => cs
  | cs, o, c :: r => vset (cs.set o c) (o + 1) r
theorem rel_lset {cs ds : List AV} {us vs : List Value} {o : Nat} (h : RelL C cs us) (k : RelL C ds vs) : RelL C (lset cs o ds) (vset us o vs) := by
  induction ds generalizing cs us vs o with
  | nil => cases k; exact h
  | cons d ds ih =>
    obtain ⟨v, vs', rfl, hv, hr⟩ := k.uncons
    exact ih (h.set hv) hr
theorem vset_one {us vs : List Value} {o : Nat} (h : ∀ u ∈ us, u.oneCell' = true) (k : ∀ u ∈ vs, u.oneCell' = true) : ∀ u ∈ vset us o vs, u.oneCell' = true := by
  induction vs generalizing us o with
  | nil => exact h
  | cons v vs ih =>
    refine ih (fun u hu => ?_) (fun u hu => k u (by simp [hu]))
    rcases List.mem_or_eq_of_mem_set hu with hu | rfl
    · exact h u hu
    · exact k u (by simp)
theorem zipIdx_vset (ds : List Value) : ∀ (cs : Array Value) (o k : Nat), ((ds.zipIdx k).foldl (fun cs (p : Value × Nat) => cs.setIfInBounds (o + p.2) p.1) cs) = (vset cs.toList (o + k) ds).toArray := by
  induction ds with
  | nil => intro cs o k; simp [vset]
  | cons d ds ih =>
    intro cs o k
    simp only [List.zipIdx_cons, List.foldl_cons, vset]
    rw [ih]
    simp [Nat.add_assoc]
theorem aplace_struct {T : TypeId} {fs : Array Field} (hu : P.underlying T = some (.struct fs)) (i : Nat) : aplace P T i = (fs[i]?).bind fun f => (tsize P f.type).map fun s => (f.offset, s) := by
  simp [aplace, hu]
theorem s_fill {T : TypeId} {place : Nat → Option (Nat × Nat)} (hp : ∀ i p, aplace P T i = some p → place i = some p) :
    ∀ (ps : List (Nat × AV)) (qs : List (Nat × Value)) (cs cs' : List AV) (us : List Value), RelL C cs us → (∀ u ∈ us, u.oneCell' = true) →
      ps.map (·.1) = qs.map (·.1) → RelL C (ps.map (·.2)) (qs.map (·.2)) → afill P T cs ps = some cs' →
      ∃ us', Instr.fill place us.toArray qs = some us'.toArray ∧ RelL C cs' us' ∧ ∀ u ∈ us', u.oneCell' = true
  | [], qs, cs, cs', us, h1, h2, h3, _, h => by
    have : qs = [] := by simpa using h3.symm
    subst this
    simp [afill] at h
    subst h
    exact ⟨us, by simp [Instr.fill], h1, h2⟩
  | (i, x) :: ps, qs, cs, cs', us, h1, h2, h3, h4, h => by
    cases qs with
    | nil => simp at h3
    | cons q qs =>
      obtain ⟨j, v⟩ := q
      simp only [List.map_cons, List.cons.injEq] at h3
      obtain ⟨rfl, h3⟩ := h3
      simp only [List.map_cons] at h4
      obtain ⟨v', vs', e, hv, h4⟩ := h4.uncons
      cases e
      simp only [afill] at h
      split at h
      · rename_i off sz hpl
        split at h
        · rename_i hc
          obtain ⟨hl, hsz, hle⟩ := hc
          obtain ⟨g1, g2⟩ := lies_cells hv hl
          have gl := g1.length
          have ul := h1.length
          have hcs : v.cells.size = sz := by rw [← Array.length_toList]; omega
          obtain ⟨us', f1, f2, f3⟩ := s_fill hp ps qs _ cs' (vset us off v.cells.toList) (rel_lset h1 g1) (vset_one h2 g2) h3 h4 h
          refine ⟨us', ?_, f2, f3⟩
          rw [Instr.fill, hp _ _ hpl]
          have hno : (decide (v.cells.size ≠ sz) || decide (off + v.cells.size > us.toArray.size)) = false := by
            simp; omega
          simp only [hno, Bool.false_eq_true, if_false]
          have hz := zipIdx_vset v.cells.toList us.toArray off 0
          simp only [Nat.add_zero] at hz
          rw [← f1]
          congr 1
          rw [← hz, ← Array.foldl_toList, Array.toList_zipIdx]
        · cases h
      · cases h
theorem mapM_places (fs : List Field) (w : World) : ∀ (hs : ∀ f ∈ fs, ∃ n, tsize P f.type = some n),
    (fs.mapM (m := Sem) fun f => do pure (f.offset, ← Go.sizeOf f.type)).run P w = .ok (fs.map fun f => (f.offset, (tsize P f.type).getD 0)) w := by
  induction fs with
  | nil => intro _; simp
  | cons f fs ih =>
    intro hs
    obtain ⟨n, hn⟩ := hs f (by simp)
    have ih' := ih fun g hg => hs g (by simp [hg])
    simp only [bind_pure_comp] at ih'
    simp [List.mapM_cons, Sem.run_bind, run_sizeOf hn, ih', hn]
end Rg
