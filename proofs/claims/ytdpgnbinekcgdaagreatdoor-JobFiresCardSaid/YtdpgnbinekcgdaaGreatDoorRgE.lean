/- Each operation on abstract values is what the model does, on. -/
import Derived.Test.YtdpgnbinekcgdaaGreatDoorRgD
import Derived.Laws.StructEq
import Derived.ChangeKeysEq
namespace Rg
open Go Go.RowKit

variable {P : Program} {W0 : World} {C : Com} {H : Heap} {w : World}

theorem tfield_spec {S : TypeId} {f off : Nat} {ty : TypeId} (h : tfield P S f = some (off, ty)) : ∃ (fs : Array Field) (d : Field), P.underlying S = some (.struct fs) ∧ fs[f]? = some d ∧ d.offset = off ∧ d.type = ty := by
  unfold tfield at h
  split at h
  · rename_i fs hu
    cases hd : fs[f]? with
    | none => rw [hd] at h; cases h
    | some d => rw [hd] at h; simp at h; exact ⟨fs, d, hu, hd, h.1, h.2⟩
  · cases h

theorem s_faddr {S : TypeId} {x r : AV} {u : Value} {f : Nat} (hi : Inv W0 C H w) (hx : Rel C x u) (h : afaddr P S x f = .val r) : VOk P W0 C H w (Instr.fieldAt S u f) r := by
  unfold afaddr at h
  split at h
  · rename_i off ty hf
    obtain ⟨fs, d, hu, hd, rfl, rfl⟩ := tfield_spec hf
    split at h
    · rename_i sz hsz
      have run : ∀ b o, (Instr.fieldAt S (.pointer (some ⟨b, o, none⟩)) f).run P w = .ok (.pointer (some ⟨b, o + d.offset, none⟩)) w := by
        intro b o
        simp [Instr.fieldAt, Sem.run_bind, run_underlying hu, hd, Instr.sureAddr, fieldPlace, run_sizeOf hsz, addr_add]
      split at h
      · obtain rfl := hx.sc_inv
        cases h
        exact VOk.same hi (run _ _) (Rel.sc _)
      · cases h
        unfold Rel at hx
        cases hx with
        | ip b k o h1 h2 h3 _ =>
          refine VOk.same hi (run _ _) ?_
          rw [Nat.add_assoc]
          exact .ip b k _ h1 h2 h3 .nil
      · cases h
    · cases h
  · cases h

theorem s_part {ty : TypeId} {cs : List AV} {us : List Value} {off : Nat} {r : AV} (hi : Inv W0 C H w) (h1 : RelL C cs us) (h2 : ∀ u ∈ us, u.oneCell' = true) (h : apart P ty cs off = .val r) : VOk P W0 C H w (part ty us.toArray off) r := by
  unfold apart at h
  have hl := h1.length
  split at h
  · rename_i sz ha hs
    split at h
    · rename_i hle
      cases h
      refine VOk.same hi (v := .agg ((us.drop off).take sz).toArray) ?_ (.agg ((h1.drop off).take sz) (fun u hu => h2 u (List.mem_of_mem_drop (List.mem_of_mem_take hu))) .nil)
      simp [part, Sem.run_bind, run_isAgg ha, run_sizeOf hs, List.drop_take, Nat.add_sub_cancel_left]
    · cases h
  · rename_i ha
    split at h
    · rename_i c hc
      cases h
      obtain ⟨u, hu, hr⟩ := h1.get hc
      exact VOk.same hi (v := u) (by simp [part, Sem.run_bind, run_isAgg ha, hu]) hr
    · cases h
  · cases h

theorem part_run {ty : TypeId} {cs : List AV} {us : List Value} {off : Nat} {r : AV} (h1 : RelL C cs us) (h2 : ∀ u ∈ us, u.oneCell' = true) (h : apart P ty cs off = .val r) : ∃ z, (part ty us.toArray off).run P w = .ok z w ∧ Rel C r z := by
  unfold apart at h
  have hl := h1.length
  split at h
  · rename_i sz ha hs
    split at h
    · rename_i hle
      cases h
      refine ⟨.agg ((us.drop off).take sz).toArray, ?_, .agg ((h1.drop off).take sz) (fun u hu => h2 u (List.mem_of_mem_drop (List.mem_of_mem_take hu))) .nil⟩
      simp [part, Sem.run_bind, run_isAgg ha, run_sizeOf hs, List.drop_take, Nat.add_sub_cancel_left]
    · cases h
  · rename_i ha
    split at h
    · rename_i c hc
      cases h
      obtain ⟨u, hu, hr⟩ := h1.get hc
      exact ⟨u, by simp [part, Sem.run_bind, run_isAgg ha, hu], hr⟩
    · cases h
  · cases h

theorem tkd_int {T : TypeId} (h : tkd P T = 2) : ∃ k, P.underlying T = some (.int k) := by unfold tkd at h; split at h <;> simp_all

theorem aeqF_run {d : Nat} {g : TypeId → AV → AV → Option Bool} (hg : ∀ (T : TypeId) (x y : AV) (u v : Value) (b : Bool), Rel C x u → Rel C y v → g T x y = some b → (Op.equalIn d T u v).run P w = .ok b w)
    {xs ys : List AV} {us vs : List Value} (hx : RelL C xs us) (hx1 : ∀ u ∈ us, u.oneCell' = true) (hy : RelL C ys vs) (hy1 : ∀ u ∈ vs, u.oneCell' = true) :
    ∀ (fs : List Field) (b : Bool), aeqF P g xs ys (fs.map fun f => (f.name == "_", f.type, f.offset)) = some b → (Op.eqFields d us.toArray vs.toArray fs).run P w = .ok b w
  | [], b, h => by simp [aeqF] at h; subst h; simp [Op.eqFields]
  | f :: fs, b, h => by
    simp only [List.map_cons, aeqF] at h
    unfold Op.eqFields
    by_cases hn : f.name = "_"
    · rw [if_pos (by simp [hn])] at h
      rw [if_neg (by simp [hn])]
      exact aeqF_run hg hx hx1 hy hy1 fs b h
    · rw [if_neg (by simp [hn])] at h
      rw [if_pos hn]
      split at h
      · rename_i a a' ha ha'
        obtain ⟨z, hz1, hz2⟩ := part_run (w := w) hx hx1 ha
        obtain ⟨z', hz1', hz2'⟩ := part_run (w := w) hy hy1 ha'
        split at h
        · rename_i e e' he he'
          cases h
          have hr := hg _ _ _ _ _ _ hz2 hz2' he
          have hr' := aeqF_run hg hx hx1 hy hy1 fs e' he'
          simp only [Sem.run_bind, hz1, hz1', hr, Result.andThen_ok]
          cases e
          · simp
          · simpa using hr'
        · cases h
      · cases h

theorem aeqI_run {d : Nat} {g : TypeId → AV → AV → Option Bool} (hg : ∀ (T : TypeId) (x y : AV) (u v : Value) (b : Bool), Rel C x u → Rel C y v → g T x y = some b → (Op.equalIn d T u v).run P w = .ok b w)
    {xs ys : List AV} {us vs : List Value} (hx : RelL C xs us) (hx1 : ∀ u ∈ us, u.oneCell' = true) (hy : RelL C ys vs) (hy1 : ∀ u ∈ vs, u.oneCell' = true) {e : TypeId} {c : Nat} :
    ∀ (is : List Nat) (b : Bool), aeqF P g xs ys (is.map fun i => (false, e, i * c)) = some b → (Op.eqItems d e c us.toArray vs.toArray is).run P w = .ok b w
  | [], b, h => by simp [aeqF] at h; subst h; simp [Op.eqItems]
  | i :: is, b, h => by
    simp only [List.map_cons, aeqF] at h
    unfold Op.eqItems
    rw [if_neg (by simp)] at h
    split at h
    · rename_i a a' ha ha'
      obtain ⟨z, hz1, hz2⟩ := part_run (w := w) hx hx1 ha
      obtain ⟨z', hz1', hz2'⟩ := part_run (w := w) hy hy1 ha'
      split at h
      · rename_i e1 e2 he he'
        cases h
        have hr := hg _ _ _ _ _ _ hz2 hz2' he
        have hr' := aeqI_run hg hx hx1 hy hy1 is e2 he'
        simp only [Sem.run_bind, hz1, hz1', hr, Result.andThen_ok]
        cases e1
        · simp
        · simpa using hr'
      · cases h
    · cases h

theorem aeqv_run : ∀ (n d : Nat) (T : TypeId) (x y : AV) (u v : Value) (b : Bool), n ≤ d → Rel C x u → Rel C y v → aeqv P n T x y = some b → (Op.equalIn d T u v).run P w = .ok b w
  | 0, d, T, x, y, u, v, b, hd, hx, hy, h => by cases h
  | n + 1, 0, T, x, y, u, v, b, hd, hx, hy, h => by omega
  | n + 1, d + 1, T, x, y, u, v, b, hd, hx, hy, h => by
    unfold aeqv at h
    split at h
    · obtain rfl := hx.sc_inv
      obtain rfl := hy.sc_inv
      split at h
      · rename_i hk
        cases h
        exact run_equalIn_bool' w d T _ _ (tkd_bool hk)
      · cases h
    · obtain rfl := hx.sc_inv
      obtain rfl := hy.sc_inv
      split at h
      · rename_i hk
        obtain ⟨hk, rfl⟩ := hk
        obtain ⟨k2, hk⟩ := tkd_int hk
        cases h
        exact run_equalIn_int w d T _ k2 _ _ hk
      · cases h
    · obtain rfl := hx.sc_inv
      obtain rfl := hy.sc_inv
      split at h
      · rename_i hk
        cases h
        exact run_equalIn_string w d T _ _ (tkd_string hk)
      · cases h
    · obtain ⟨us, rfl, hx1, hx2⟩ := hx.agg_inv
      obtain ⟨vs, rfl, hy1, hy2⟩ := hy.agg_inv
      split at h
      · rename_i fs hfs
        unfold tfs at hfs
        split at hfs
        · rename_i fs0 hu
          split at hfs
          · rename_i hc
            cases hfs
            have hf : P.fieldsOf T = fs0 := by unfold Program.fieldsOf; rw [hu]
            rw [run_equalIn_struct w d T _ _ (by rw [hf]; exact hu) hc.1, hf]
            exact aeqF_run (fun T x y u v b hx hy h => aeqv_run n d T x y u v b (by omega) hx hy h) hx1 hx2 hy1 hy2 _ _ h
          · cases hfs
        · rename_i len e hu
          split at hfs
          · rename_i hc
            cases hfs
            obtain ⟨i, hi⟩ := Option.isSome_iff_exists.1 hc.2
            rw [run_equalIn_array w d _ _ hu hi]
            exact aeqI_run (fun T x y u v b hx hy h => aeqv_run n d T x y u v b (by omega) hx hy h) hx1 hx2 hy1 hy2 _ _ h
          · cases hfs
        · cases hfs
      · cases h
    · cases h

theorem s_binA {op : BinOp} {T : TypeId} {x y r : AV} {u v : Value} (hi : Inv W0 C H w) (hx : Rel C x u) (hy : Rel C y v) (h : abinA P op T x y = .val r) (ox oy : Operand) :
    VOk P W0 C H w (do eqGuard op T ox oy u v; binOp op T u v) r := by
  unfold abinA at h
  split at h
  · rename_i xs ys
    split at h
    · rename_i fs b hfs hb
      have he := aeqv_run (w := w) 5 10000 T _ _ u v b (by omega) hx hy hb
      obtain ⟨us, rfl, hx1, hx2⟩ := hx.agg_inv
      obtain ⟨vs, rfl, hy1, hy2⟩ := hy.agg_inv
      have hg : P.eqGuardType P.depth T = false := by
        unfold tfs at hfs
        split at hfs
        · split at hfs
          · rename_i hc; exact hc.2
          · cases hfs
        · split at hfs
          · rename_i hc; exact hc.1
          · cases hfs
        · cases hfs
      rcases eqv_spec h with ⟨rfl, rfl⟩ | ⟨rfl, rfl⟩
      · exact VOk.same hi (v := .bool b) (by rw [Sem.run_bind, run_eqGuard_agg w .eql T ox oy _ _ hg, Result.andThen_ok, run_eql_struct, he]; rfl) (Rel.sc _)
      · exact VOk.same hi (v := .bool !b) (by rw [Sem.run_bind, run_eqGuard_agg w .neq T ox oy _ _ hg, Result.andThen_ok, run_neq_struct, he]; rfl) (Rel.sc _)
    · cases h
  · exact s_bin hi hx hy h ox oy

theorem s_field {S : TypeId} {x r : AV} {u : Value} {f : Nat} (hi : Inv W0 C H w) (hx : Rel C x u) (h : afield P S x f = .val r) : VOk P W0 C H w (Instr.field S u f) r := by
  unfold afield at h
  split at h
  · rename_i off ty cs hf
    obtain ⟨fs, d, hu, hd, rfl, rfl⟩ := tfield_spec hf
    obtain ⟨us, rfl, h1, h2⟩ := hx.agg_inv
    obtain ⟨v, w', C', hr, hrel, hC, hI⟩ := s_part hi h1 h2 h
    exact ⟨v, w', C', by simp [Instr.field, Sem.run_bind, run_underlying hu, hd, asAgg, hr], hrel, hC, hI⟩
  · cases h

theorem aint_spec {x : AV} {u : Value} {n : Int} (hx : Rel C x u) (h : aint x = some n) : ∃ k, u = .int k n := by
  unfold aint at h
  split at h
  · cases h; exact ⟨_, hx.sc_inv⟩
  · cases h

theorem flat_at {sz : Nat} {xs : List AV} (h : ∀ x ∈ xs, x.cells.length = sz) {us : List Value} (hr : RelL C (xs.flatMap AV.cells) us) {i : Nat} {y : AV} (hy : xs[i]? = some y) :
    RelL C y.cells ((us.drop (i * sz)).take sz) := by
  rw [flat_get h hy]
  exact (hr.drop _).take _

theorem s_iaddr {T : TypeId} {x i r : AV} {u v : Value} (hi : Inv W0 C H w) (hx : Rel C x u) (hiv : Rel C i v) (h : aiaddr P T x i = .val r) : VOk P W0 C H w (Instr.indexAt T u v) r := by
  unfold aiaddr at h
  split at h
  · rename_i n hn
    obtain ⟨k, rfl⟩ := aint_spec hiv hn
    split at h
    · cases h
    · rename_i hneg
      split at h
      · rename_i xs t
        split at h
        · rename_i e he
          split at h
          · rename_i y hy
            split at h
            · rename_i hsz
              cases h
              have hlt := (List.getElem?_eq_some_iff.1 hy).1
              have hu := telem_spec he
              have hue : P.underlying T = some (.slice (P.elem T)) := by simp [Program.elem, hu]
              unfold Rel at hx
              cases hx with
              | nils => simp at hlt
              | emp => simp at hlt
              | @sl _ _ _ us t b o cap sz h1 h2 h3 h4 h5 h6 h7 _ =>
                have hyl := h2 y (List.mem_of_getElem? hy)
                rw [hyl] at hsz
                refine VOk.same hi (v := .pointer (some ⟨b, o + n.toNat * sz, none⟩)) ?_ ?_
                · have hb : 0 ≤ n ∧ n < (xs.length : Int) := ⟨by omega, by omega⟩
                  simp [Instr.indexAt, asIntOf, Sem.run_bind, run_underlying hu, hb, run_sizeOf hsz, addr_add]
                · have hp := flat_at h2 h1 hy
                  refine RelL.ip (us := (us.drop (n.toNat * sz)).take sz) b (o + n.toNat * sz) 0 hp (fun q hq => h3 q (List.mem_of_mem_drop (List.mem_of_mem_take hq))) ?_ .nil
                  intro j q hq
                  rw [List.getElem?_take] at hq
                  split at hq
                  · rw [List.getElem?_drop] at hq
                    rw [Nat.add_assoc]
                    exact h4 _ _ hq
                  · cases hq
            · cases h
          · cases h
        · cases h
      · rename_i b o len c
        obtain rfl := hx.sc_inv
        split at h
        · rename_i e he
          split at h
          · rename_i sz hsz
            split at h
            · rename_i hlt
              cases h
              have hu := telem_spec he
              refine VOk.same hi ?_ (Rel.sc _)
              have hb : 0 ≤ n ∧ n < (len : Int) := ⟨by omega, by omega⟩
              simp [Instr.indexAt, asIntOf, Sem.run_bind, run_underlying hu, hb, run_sizeOf hsz, addr_add]
            · cases h
          · cases h
        · cases h
      · obtain rfl := hx.sc_inv
        split at h
        · rename_i len e he
          split at h
          · rename_i sz hsz
            split at h
            · rename_i hlt
              cases h
              have hu := tarr_spec he
              refine VOk.same hi ?_ (Rel.sc _)
              have hb : 0 ≤ n ∧ n < (len : Int) := ⟨by omega, by omega⟩
              simp [Instr.indexAt, asIntOf, Sem.run_bind, run_underlying hu, hb, run_sizeOf hsz, addr_add, Instr.sureAddr]
            · cases h
          · cases h
        · cases h
      · rename_i cs o'
        split at h
        · rename_i len e he
          split at h
          · rename_i sz hsz
            split at h
            · rename_i hlt
              cases h
              have hu := tarr_spec he
              unfold Rel at hx
              cases hx with
              | ip b k o h1 h2 h3 _ =>
                refine VOk.same hi (v := .pointer (some ⟨b, k + (o' + n.toNat * sz), none⟩)) ?_ (.ip b k _ h1 h2 h3 .nil)
                have hb : 0 ≤ n ∧ n < (len : Int) := ⟨by omega, by omega⟩
                simp [Instr.indexAt, asIntOf, Sem.run_bind, run_underlying hu, hb, run_sizeOf hsz, addr_add, Instr.sureAddr, Nat.add_assoc]
            · cases h
          · cases h
        · cases h
      · cases h
  · cases h

theorem s_index {T : TypeId} {x i r : AV} {u v : Value} (hi : Inv W0 C H w) (hx : Rel C x u) (hiv : Rel C i v) (h : aindex P T x i = .val r) : VOk P W0 C H w (Instr.index T u v) r := by
  unfold aindex at h
  split at h
  · rename_i n hn
    obtain ⟨k, rfl⟩ := aint_spec hiv hn
    split at h
    · cases h
    · rename_i hneg
      split at h
      · split at h
        · rename_i cs len e he
          split at h
          · rename_i sz hsz
            split at h
            · rename_i hlt
              have hu := tarr_spec he
              obtain ⟨us, rfl, h1, h2⟩ := hx.agg_inv
              obtain ⟨z, w', C', hr, hrel, hC, hI⟩ := s_part hi h1 h2 h
              have hb : 0 ≤ n ∧ n < (len : Int) := ⟨by omega, by omega⟩
              exact ⟨z, w', C', by simp [Instr.index, asIntOf, Sem.run_bind, run_underlying hu, hb, run_sizeOf hsz, hr], hrel, hC, hI⟩
            · cases h
          · cases h
        · cases h
      · rename_i s
        obtain rfl := hx.sc_inv
        split at h
        · rename_i hk
          split at h
          · rename_i b hb
            cases h
            have hu := tkd_string hk
            refine VOk.same hi ?_ (Rel.sc _)
            have h0 : 0 ≤ n := by omega
            have hlt := (List.getElem?_eq_some_iff.1 hb).1
            have hg : s[n.toNat]? = some b := by
              have hsz : n.toNat < s.size := by rw [Array.length_toList] at hlt; exact hlt
              rw [getElem?_pos s n.toNat hsz]
              have hb' := (List.getElem?_eq_some_iff.1 hb).2
              rw [← hb']
              rfl
            simp [Instr.index, asIntOf, Sem.run_bind, run_underlying hu, h0, hg]
          · cases h
        · cases h
      · cases h
  · cases h

theorem s_extract {x r : AV} {u : Value} {i : Nat} (hi : Inv W0 C H w) (hx : Rel C x u) (h : aextract x i = .val r) : VOk P W0 C H w (Instr.extract u i) r := by
  unfold aextract at h
  split at h
  · split at h
    · rename_i c hc
      cases h
      obtain ⟨us, rfl, h1⟩ := hx.tup_inv
      obtain ⟨v, hv, hr⟩ := h1.get hc
      exact VOk.same hi (v := v) (by simp [Instr.extract, hv]) hr
    · cases h
  · cases h

theorem s_len {T : TypeId} {x r : AV} {u : Value} {ty : TypeId} {ts : Array TypeId} (hi : Inv W0 C H w) (hx : Rel C x u) (h : alen P T x = .val r) (ht : ts.toList = [T]) : VOk P W0 C H w (Builtin.len_ ts ty #[u]) r := by
  have ht' : ts = #[T] := by apply Array.toList_inj.1; simpa using ht
  subst ht'
  unfold alen at h
  split at h
  · split at h
    · rename_i xs t hk
      cases h
      obtain ⟨e, hu⟩ := tkd_slice hk
      obtain ⟨a, cap, rfl, _, _⟩ := hx.sl_form
      exact VOk.same hi (by simp [Builtin.len_, Sem.run_bind, run_underlying hu, goInt]) (Rel.sc _)
    · cases h
  · obtain rfl := hx.sc_inv
    split at h
    · rename_i hk
      cases h
      exact VOk.same hi (by simp [Builtin.len_, Sem.run_bind, run_underlying (tkd_string hk), goInt]) (Rel.sc _)
    · cases h
  · obtain rfl := hx.sc_inv
    split at h
    · rename_i hk
      cases h
      obtain ⟨e, hu⟩ := tkd_slice hk
      exact VOk.same hi (by simp [Builtin.len_, Sem.run_bind, run_underlying hu, goInt]) (Rel.sc _)
    · cases h
  · cases h

theorem s_fold {f : AV → AV → Option AV} {g : Value → Value → Sem Value} (hfg : ∀ x y z u v, f x y = some z → Rel C x u → Rel C y v → ∃ q, (g u v).run P w = .ok q w ∧ Rel C z q) :
    ∀ (ys : List AV) (vs : List Value) (x r : AV) (u : Value), Rel C x u → RelL C ys vs → afold f x ys = .val r → ∃ q, (vs.foldlM g u).run P w = .ok q w ∧ Rel C r q
  | [], vs, x, r, u, hx, hy, h => by
    cases hy
    simp [afold] at h
    subst h
    exact ⟨u, by simp, hx⟩
  | y :: ys, vs, x, r, u, hx, hy, h => by
    obtain ⟨v, vs', rfl, hv, hr⟩ := hy.uncons
    simp only [afold] at h
    split at h
    · rename_i z hz
      obtain ⟨q, hq, hqr⟩ := hfg _ _ _ _ _ hz hx hv
      obtain ⟨q', hq', hr'⟩ := s_fold hfg ys vs' z r q hqr hr h
      exact ⟨q', by simp [List.foldlM_cons, Sem.run_bind, hq, hq'], hr'⟩
    · cases h

theorem amin2_spec (x y z : AV) (u v : Value) (h : amin2 x y = some z) (hx : Rel C x u) (hy : Rel C y v) : ∃ q, (Builtin.min2 u v).run P w = .ok q w ∧ Rel C z q := by
  unfold amin2 at h
  split at h
  · obtain rfl := hx.sc_inv; obtain rfl := hy.sc_inv; cases h
    exact ⟨_, by simp [Builtin.min2], Rel.sc _⟩
  · cases h

theorem amax2_spec (x y z : AV) (u v : Value) (h : amax2 x y = some z) (hx : Rel C x u) (hy : Rel C y v) : ∃ q, (Builtin.max2 u v).run P w = .ok q w ∧ Rel C z q := by
  unfold amax2 at h
  split at h
  · obtain rfl := hx.sc_inv; obtain rfl := hy.sc_inv; cases h
    exact ⟨_, by simp [Builtin.max2], Rel.sc _⟩
  · cases h

/-! ### Composites -/

theorem lies_cells {x : AV} {v : Value} (h : Rel C x v) (hl : x.lies = true) : RelL C x.cells v.cells.toList ∧ ∀ u ∈ v.cells.toList, u.oneCell' = true :=
  h.cells (fun cs e => by subst e; simp [AV.lies] at hl) (fun y e => by subst e; exact hl)

theorem lset_length (cs : List AV) (o : Nat) (ds : List AV) : (lset cs o ds).length = cs.length := by
  induction ds generalizing cs o with
  | nil => rfl
  | cons d ds ih => simp [lset, ih]

def vset : List Value → Nat → List Value → List Value
  | cs, _, [] => cs
  | cs, o, c :: r => vset (cs.set o c) (o + 1) r

theorem vset_length (cs : List Value) (o : Nat) (ds : List Value) : (vset cs o ds).length = cs.length := by
  induction ds generalizing cs o with
  | nil => rfl
  | cons d ds ih => simp [vset, ih]

theorem rel_lset {cs ds : List AV} {us vs : List Value} {o : Nat} (h : RelL C cs us) (k : RelL C ds vs) : RelL C (lset cs o ds) (vset us o vs) := by
  induction ds generalizing cs us vs o with
  | nil => cases k; exact h
  | cons d ds ih =>
    obtain ⟨v, vs', rfl, hv, hr⟩ := k.uncons
    exact ih (h.set hv) hr

theorem vset_one {us vs : List Value} {o : Nat} (h : ∀ u ∈ us, u.oneCell' = true) (k : ∀ u ∈ vs, u.oneCell' = true) : ∀ u ∈ vset us o vs, u.oneCell' = true := by
  induction vs generalizing us o with
  | nil => exact h
  | cons v vs ih =>
    refine ih (fun u hu => ?_) (fun u hu => k u (by simp [hu]))
    rcases List.mem_or_eq_of_mem_set hu with hu | rfl
    · exact h u hu
    · exact k u (by simp)

theorem zipIdx_vset (ds : List Value) : ∀ (cs : Array Value) (o k : Nat), ((ds.zipIdx k).foldl (fun cs (p : Value × Nat) => cs.setIfInBounds (o + p.2) p.1) cs) = (vset cs.toList (o + k) ds).toArray := by
  induction ds with
  | nil => intro cs o k; simp [vset]
  | cons d ds ih =>
    intro cs o k
    simp only [List.zipIdx_cons, List.foldl_cons, vset]
    rw [ih]
    simp [Nat.add_assoc]

theorem aplace_struct {T : TypeId} {fs : Array Field} (hu : P.underlying T = some (.struct fs)) (i : Nat) : aplace P T i = (fs[i]?).bind fun f => (tsize P f.type).map fun s => (f.offset, s) := by
  simp [aplace, hu]

theorem s_fill {T : TypeId} {place : Nat → Option (Nat × Nat)} (hp : ∀ i p, aplace P T i = some p → place i = some p) :
    ∀ (ps : List (Nat × AV)) (qs : List (Nat × Value)) (cs cs' : List AV) (us : List Value), RelL C cs us → (∀ u ∈ us, u.oneCell' = true) →
      ps.map (·.1) = qs.map (·.1) → RelL C (ps.map (·.2)) (qs.map (·.2)) → afill P T cs ps = some cs' →
      ∃ us', Instr.fill place us.toArray qs = some us'.toArray ∧ RelL C cs' us' ∧ ∀ u ∈ us', u.oneCell' = true
  | [], qs, cs, cs', us, h1, h2, h3, _, h => by
    have : qs = [] := by simpa using h3.symm
    subst this
    simp [afill] at h
    subst h
    exact ⟨us, by simp [Instr.fill], h1, h2⟩
  | (i, x) :: ps, qs, cs, cs', us, h1, h2, h3, h4, h => by
    cases qs with
    | nil => simp at h3
    | cons q qs =>
      obtain ⟨j, v⟩ := q
      simp only [List.map_cons, List.cons.injEq] at h3
      obtain ⟨rfl, h3⟩ := h3
      simp only [List.map_cons] at h4
      obtain ⟨v', vs', e, hv, h4⟩ := h4.uncons
      cases e
      simp only [afill] at h
      split at h
      · rename_i off sz hpl
        split at h
        · rename_i hc
          obtain ⟨hl, hsz, hle⟩ := hc
          obtain ⟨g1, g2⟩ := lies_cells hv hl
          have gl := g1.length
          have ul := h1.length
          have hcs : v.cells.size = sz := by rw [← Array.length_toList]; omega
          obtain ⟨us', f1, f2, f3⟩ := s_fill hp ps qs _ cs' (vset us off v.cells.toList) (rel_lset h1 g1) (vset_one h2 g2) h3 h4 h
          refine ⟨us', ?_, f2, f3⟩
          rw [Instr.fill, hp _ _ hpl]
          have hno : (decide (v.cells.size ≠ sz) || decide (off + v.cells.size > us.toArray.size)) = false := by
            simp; omega
          simp only [hno, Bool.false_eq_true, if_false]
          have hz := zipIdx_vset v.cells.toList us.toArray off 0
          simp only [Nat.add_zero] at hz
          rw [← f1]
          congr 1
          rw [← hz, ← Array.foldl_toList, Array.toList_zipIdx]
        · cases h
      · cases h

theorem mapM_places (fs : List Field) (w : World) : ∀ (hs : ∀ f ∈ fs, ∃ n, tsize P f.type = some n),
    (fs.mapM (m := Sem) fun f => do pure (f.offset, ← Go.sizeOf f.type)).run P w = .ok (fs.map fun f => (f.offset, (tsize P f.type).getD 0)) w := by
  induction fs with
  | nil => intro _; simp
  | cons f fs ih =>
    intro hs
    obtain ⟨n, hn⟩ := hs f (by simp)
    have ih' := ih fun g hg => hs g (by simp [hg])
    simp only [bind_pure_comp] at ih'
    simp [List.mapM_cons, Sem.run_bind, run_sizeOf hn, ih', hn]

end Rg
