/- A call does what its run over abstract values says, on. -/
import Derived.Test.YtdpgnbinekcgdaaGreatDoorRgI
namespace Rg
open Go Go.RowKit

variable {dds : List Deferred} {P : Program} {W0 : World} {C : Com} {H : Heap} {w : World}

theorem exec_alloc {n : Nat} {ρ : Nat → AV} {a : Act} {o : Oper} {cs : List AV} {T : TypeId} (hi : Inv W0 C H w) (hf : RelF dds C n ρ a) (h : astepV P o.op (evA ρ) H = .alloc cs T) :
    ∃ b w', (execOp a.eval o).run P w = .ok (.value (.pointer (some ⟨b, 0, none⟩))) w' ∧ H b = none ∧ Inv W0 C (H.set b (.cells cs T)) w' := by
  have hev := hf.ev
  obtain ⟨dst, op, type, pos, after, guard⟩ := o
  simp only at h
  cases op <;> simp only [astepV] at h <;> try (cases h; done)
  case alloc T' =>
    obtain ⟨b, w', h1, h2⟩ := s_alloc hi h
    exact ⟨b, w', by simp [execOp, Sem.run_bind, h1], h2⟩
  case box T' x =>
    obtain ⟨b, w', h1, h2⟩ := s_box (P := P) hi (hev x) h
    exact ⟨b, w', by simp [execOp, Sem.run_bind, h1], h2⟩
  case pick c x y => exact absurd (tame_pick _ _ _) (by rw [h]; simp [ASR.tame])
  case build T ps => exact absurd (tame_build _ _ _) (by rw [h]; simp [ASR.tame])
  case buildSlice T k ps => exact (no_build h rfl rfl).elim
  case load T x => exact absurd (tame_load _ _ _ _) (by rw [h]; simp [ASR.tame])
  case store T x y => unfold astore at h; (repeat' split at h) <;> cases h
  case nilCheck x => exact absurd (tame_nil _) (by rw [h]; simp [ASR.tame])
  case binOp b T x y T' => exact absurd (tame_binA _ _ _ _ _) (by rw [h]; simp [ASR.tame])
  case unOp b T x => exact absurd (tame_un _ _) (by rw [h]; simp [ASR.tame])
  case convert s d x => exact (no_mark h rfl rfl).elim
  case slice T x lo hi' mx => exact (no_unarr h rfl (by simp)).elim
  case fieldAddr S x f => exact absurd (tame_faddr _ _ _ _) (by rw [h]; simp [ASR.tame])
  case field S x f => exact absurd (tame_field _ _ _ _) (by rw [h]; simp [ASR.tame])
  case indexAddr T x i => exact absurd (tame_iaddr _ _ _ _) (by rw [h]; simp [ASR.tame])
  case index T x i => exact absurd (tame_index _ _ _ _) (by rw [h]; simp [ASR.tame])
  case extract t i => exact absurd (tame_extract _ _) (by rw [h]; simp [ASR.tame])
  case makeFunc fn first cap => exact absurd (tame_makeFunc _ _ _) (by rw [h]; simp [ASR.tame])
  case call c =>
    unfold acall at h
    split at h
    · unfold abuiltin at h
      split at h
      · unfold alen at h; (repeat' split at h) <;> cases h
      · exact absurd (tame_fold' _ _ _) (by rw [h]; simp [ASR.tame])
      · exact absurd (tame_fold' _ _ _) (by rw [h]; simp [ASR.tame])
      · (repeat' split at h) <;> cases h
      · split at h <;> cases h
      · cases h
    · unfold acallv at h; (repeat' split at h) <;> cases h
    · cases h

theorem exec_store {n : Nat} {ρ : Nat → AV} {a : Act} {o : Oper} {b off : Nat} {ds : List AV} (hi : Inv W0 C H w) (hf : RelF dds C n ρ a) (h : astepV P o.op (evA ρ) H = .store b off ds) :
    ∃ cs T w', H b = some (.cells cs T) ∧ (execOp a.eval o).run P w = .ok .skip w' ∧ Inv W0 C (H.set b (.cells (lset cs off ds) T)) w' := by
  have hev := hf.ev
  obtain ⟨dst, op, type, pos, after, guard⟩ := o
  simp only at h
  cases op <;> simp only [astepV] at h <;> try (cases h; done)
  case store T x y =>
    obtain ⟨cs, T', w', h1, h2, h3⟩ := s_store hi (hev x) (hev y) h
    exact ⟨cs, T', w', h1, by simp [execOp, Sem.run_bind, h2], h3⟩
  case alloc T' => unfold aalloc at h; (repeat' split at h) <;> cases h
  case box T' x => unfold abox at h; (repeat' split at h) <;> cases h
  case pick c x y => exact absurd (tame_pick _ _ _) (by rw [h]; simp [ASR.tame])
  case build T ps => exact absurd (tame_build _ _ _) (by rw [h]; simp [ASR.tame])
  case buildSlice T k ps => exact (no_build h rfl rfl).elim
  case load T x => exact absurd (tame_load _ _ _ _) (by rw [h]; simp [ASR.tame])
  case nilCheck x => exact absurd (tame_nil _) (by rw [h]; simp [ASR.tame])
  case binOp b T x y T' => exact absurd (tame_binA _ _ _ _ _) (by rw [h]; simp [ASR.tame])
  case unOp b T x => exact absurd (tame_un _ _) (by rw [h]; simp [ASR.tame])
  case convert s d x => exact (no_mark h rfl rfl).elim
  case slice T x lo hi' mx => exact (no_unarr h rfl (by simp)).elim
  case fieldAddr S x f => exact absurd (tame_faddr _ _ _ _) (by rw [h]; simp [ASR.tame])
  case field S x f => exact absurd (tame_field _ _ _ _) (by rw [h]; simp [ASR.tame])
  case indexAddr T x i => exact absurd (tame_iaddr _ _ _ _) (by rw [h]; simp [ASR.tame])
  case index T x i => exact absurd (tame_index _ _ _ _) (by rw [h]; simp [ASR.tame])
  case extract t i => exact absurd (tame_extract _ _) (by rw [h]; simp [ASR.tame])
  case makeFunc fn first cap => exact absurd (tame_makeFunc _ _ _) (by rw [h]; simp [ASR.tame])
  case call c =>
    unfold acall at h
    split at h
    · unfold abuiltin at h
      split at h
      · unfold alen at h; (repeat' split at h) <;> cases h
      · exact absurd (tame_fold' _ _ _) (by rw [h]; simp [ASR.tame])
      · exact absurd (tame_fold' _ _ _) (by rw [h]; simp [ASR.tame])
      · (repeat' split at h) <;> cases h
      · split at h <;> cases h
      · cases h
    · unfold acallv at h; (repeat' split at h) <;> cases h
    · cases h

/-- append: onto which slice, with which elements. -/
theorem exec_app {n : Nat} {ρ : Nat → AV} {a : Act} {o : Oper} {T e : TypeId} {xs ys : List AV} {t : Tok} (hf : RelF dds C n ρ a) (h : astepV P o.op (evA ρ) H = .app T e xs t ys) :
    ∃ (ty : TypeId) (u v : Value) (t' : Tok), (∀ w, (execOp a.eval o).run P w = ((Builtin.append_ #[T, T] ty #[u, v]).run P w).andThen fun x w' => .ok (.value x) w') ∧ Rel C (.sl xs t) u ∧ Rel C (.sl ys t') v := by
  have hev := hf.ev
  obtain ⟨dst, op, type, pos, after, guard⟩ := o
  simp only at h
  cases op <;> simp only [astepV] at h <;> try (cases h; done)
  case call c =>
    obtain ⟨callee, args, ats⟩ := c
    unfold acall at h
    simp only at h
    split at h
    · rename_i b
      have hargs := relL_map hev args.toList
      unfold abuiltin at h
      split at h
      · unfold alen at h; (repeat' split at h) <;> cases h
      · exact absurd (tame_fold' _ _ _) (by rw [h]; simp [ASR.tame])
      · exact absurd (tame_fold' _ _ _) (by rw [h]; simp [ASR.tame])
      · rename_i T1 T2 xs' t1 ys' t2 hts hxs
        split at h
        · rename_i hTT
          subst hTT
          split at h
          case h_2 => cases h
          cases h
          rw [hxs] at hargs
          obtain ⟨u, us, hu, hr, hn⟩ := hargs.uncons
          obtain ⟨v, us', rfl, hr', hn'⟩ := hn.uncons
          obtain rfl := hn'.nil_inv
          rw [← Array.toList_map] at hu
          refine ⟨type, u, v, t2, fun ww => ?_, hr, hr'⟩
          simp [execOp, resolve, invoke_builtin, arr_of_list hu, builtin, arr_of_list hts]
        · cases h
      · split at h <;> cases h
      · cases h
    · unfold acallv at h; (repeat' split at h) <;> cases h
    · cases h
  case store T x y => unfold astore at h; (repeat' split at h) <;> cases h
  case alloc T' => unfold aalloc at h; (repeat' split at h) <;> cases h
  case box T' x => unfold abox at h; (repeat' split at h) <;> cases h
  case pick c x y => exact absurd (tame_pick _ _ _) (by rw [h]; simp [ASR.tame])
  case build T ps => exact absurd (tame_build _ _ _) (by rw [h]; simp [ASR.tame])
  case buildSlice T k ps => exact (no_build h rfl rfl).elim
  case load T x => exact absurd (tame_load _ _ _ _) (by rw [h]; simp [ASR.tame])
  case nilCheck x => exact absurd (tame_nil _) (by rw [h]; simp [ASR.tame])
  case binOp b T x y T' => exact absurd (tame_binA _ _ _ _ _) (by rw [h]; simp [ASR.tame])
  case unOp b T x => exact absurd (tame_un _ _) (by rw [h]; simp [ASR.tame])
  case convert s d x => exact (no_mark h rfl rfl).elim
  case slice T x lo hi' mx => exact (no_unarr h rfl (by simp)).elim
  case fieldAddr S x f => exact absurd (tame_faddr _ _ _ _) (by rw [h]; simp [ASR.tame])
  case field S x f => exact absurd (tame_field _ _ _ _) (by rw [h]; simp [ASR.tame])
  case indexAddr T x i => exact absurd (tame_iaddr _ _ _ _) (by rw [h]; simp [ASR.tame])
  case index T x i => exact absurd (tame_index _ _ _ _) (by rw [h]; simp [ASR.tame])
  case extract t i => exact absurd (tame_extract _ _) (by rw [h]; simp [ASR.tame])
  case makeFunc fn first cap => exact absurd (tame_makeFunc _ _ _) (by rw [h]; simp [ASR.tame])

/-- Bytes that stand in the text; a mark. -/
theorem exec_lits {n : Nat} {ρ : Nat → AV} {a : Act} {o : Oper} {e : TypeId} {sz : Nat} {xs : List AV} (hi : Inv W0 C H w) (hf : RelF dds C n ρ a) (h : astepV P o.op (evA ρ) H = .lits e sz xs) :
    ∃ v g w' C', (execOp a.eval o).run P w = .ok (.value v) w' ∧ H g = none ∧ CLe C C' ∧ Rel C' (.sl xs (.own g xs.length sz e)) v ∧ Inv W0 C' (H.set g (.open xs.length xs.length sz e)) w' := by
  have hev := hf.ev
  obtain ⟨dst, op, type, pos, after, guard⟩ := o
  simp only at h
  cases op <;> simp only [astepV] at h <;> try (cases h; done)
  case buildSlice T k ps =>
    have h1 : (ps.toList.map fun p => (p.1, evA ρ p.2)).map (·.1) = (ps.map fun p => (p.1, a.eval p.2)).toList.map (·.1) := by simp
    have h2 : RelL C ((ps.toList.map fun p => (p.1, evA ρ p.2)).map (·.2)) ((ps.map fun p => (p.1, a.eval p.2)).toList.map (·.2)) := by simpa using relL_mapP hev ps.toList
    have h : alits P T (abuildSlice P T k (ps.toList.map fun p => (p.1, evA ρ p.2))) = .lits e sz xs := by
      split at h
      · exact h
      · exact absurd (tame_buildSlice P T k (ps.toList.map fun p => (p.1, evA ρ p.2))) (by rw [h]; simp [ASR.tame])
    obtain ⟨v, g, w', C', h3, h4⟩ := s_lits (P := P) hi h1 h2 h
    exact ⟨v, g, w', C', by simp [execOp, Sem.run_bind, h3], h4⟩
  case convert s d x =>
    unfold amark at h
    split at h
    · split at h
      · (repeat' split at h) <;> cases h
      · exact absurd (tame_conv _ _ _ _) (by rw [h]; simp [ASR.tame])
    · exact absurd (tame_conv _ _ _ _) (by rw [h]; simp [ASR.tame])
  case pick c x y => exact absurd (tame_pick _ _ _) (by rw [h]; simp [ASR.tame])
  case alloc T' => unfold aalloc at h; (repeat' split at h) <;> cases h
  case box T' x => unfold abox at h; (repeat' split at h) <;> cases h
  case build T ps => exact absurd (tame_build _ _ _) (by rw [h]; simp [ASR.tame])
  case load T x => exact absurd (tame_load _ _ _ _) (by rw [h]; simp [ASR.tame])
  case store T x y => unfold astore at h; (repeat' split at h) <;> cases h
  case nilCheck x => exact absurd (tame_nil _) (by rw [h]; simp [ASR.tame])
  case binOp b T x y T' => exact absurd (tame_binA _ _ _ _ _) (by rw [h]; simp [ASR.tame])
  case unOp b T x => exact absurd (tame_un _ _) (by rw [h]; simp [ASR.tame])
  case slice T x lo hi' mx => exact (no_unarr h rfl (by simp)).elim
  case fieldAddr S x f => exact absurd (tame_faddr _ _ _ _) (by rw [h]; simp [ASR.tame])
  case field S x f => exact absurd (tame_field _ _ _ _) (by rw [h]; simp [ASR.tame])
  case indexAddr T x i => exact absurd (tame_iaddr _ _ _ _) (by rw [h]; simp [ASR.tame])
  case index T x i => exact absurd (tame_index _ _ _ _) (by rw [h]; simp [ASR.tame])
  case extract t i => exact absurd (tame_extract _ _) (by rw [h]; simp [ASR.tame])
  case makeFunc fn first cap => exact absurd (tame_makeFunc _ _ _) (by rw [h]; simp [ASR.tame])
  case call c =>
    unfold acall at h
    split at h
    · unfold abuiltin at h
      split at h
      · unfold alen at h; (repeat' split at h) <;> cases h
      · exact absurd (tame_fold' _ _ _) (by rw [h]; simp [ASR.tame])
      · exact absurd (tame_fold' _ _ _) (by rw [h]; simp [ASR.tame])
      · (repeat' split at h) <;> cases h
      · split at h <;> cases h
      · cases h
    · unfold acallv at h; (repeat' split at h) <;> cases h
    · cases h

theorem exec_freeze {n : Nat} {ρ : Nat → AV} {a : Act} {o : Oper} {g m cap sz : Nat} {T : TypeId} {v : AV} (hi : Inv W0 C H w) (hf : RelF dds C n ρ a) (h : astepV P o.op (evA ρ) H = .freeze g v) (hg : H g = some (.open m cap sz T)) :
    ∃ u w', (execOp a.eval o).run P w = .ok (.value u) w' ∧ Rel C v u ∧ Inv W0 C (H.del g) w' := by
  have hev := hf.ev
  obtain ⟨dst, op, type, pos, after, guard⟩ := o
  simp only at h
  cases op <;> simp only [astepV] at h <;> try (cases h; done)
  case buildSlice T k ps =>
    split at h
    · unfold alits at h; (repeat' split at h) <;> cases h
    · exact absurd (tame_buildSlice P T k (ps.toList.map fun p => (p.1, evA ρ p.2))) (by rw [h]; simp [ASR.tame])
  case convert s d x =>
    unfold amark at h
    split at h
    · rename_i xs g' cap' sz' T' hx
      split at h
      · rename_i hc
        split at h
        · rename_i e he
          split at h
          · rename_i hk
            cases h
            have hr := hev x
            rw [hx] at hr
            obtain ⟨w', h1, h2⟩ := s_mark (P := P) hi hr hc.1 he hk hg
            exact ⟨_, w', by simp [execOp, Sem.run_bind, h1], hr.forget, h2⟩
          · cases h
        · cases h
      · exact absurd (tame_conv _ _ _ _) (by rw [h]; simp [ASR.tame])
    · exact absurd (tame_conv _ _ _ _) (by rw [h]; simp [ASR.tame])
  case pick c x y => exact absurd (tame_pick _ _ _) (by rw [h]; simp [ASR.tame])
  case alloc T' => unfold aalloc at h; (repeat' split at h) <;> cases h
  case box T' x => unfold abox at h; (repeat' split at h) <;> cases h
  case build T ps => exact absurd (tame_build _ _ _) (by rw [h]; simp [ASR.tame])
  case load T x => exact absurd (tame_load _ _ _ _) (by rw [h]; simp [ASR.tame])
  case store T x y => unfold astore at h; (repeat' split at h) <;> cases h
  case nilCheck x => exact absurd (tame_nil _) (by rw [h]; simp [ASR.tame])
  case binOp b T x y T' => exact absurd (tame_binA _ _ _ _ _) (by rw [h]; simp [ASR.tame])
  case unOp b T x => exact absurd (tame_un _ _) (by rw [h]; simp [ASR.tame])
  case slice T x lo hi' mx => exact (no_unarr h rfl (by simp)).elim
  case fieldAddr S x f => exact absurd (tame_faddr _ _ _ _) (by rw [h]; simp [ASR.tame])
  case field S x f => exact absurd (tame_field _ _ _ _) (by rw [h]; simp [ASR.tame])
  case indexAddr T x i => exact absurd (tame_iaddr _ _ _ _) (by rw [h]; simp [ASR.tame])
  case index T x i => exact absurd (tame_index _ _ _ _) (by rw [h]; simp [ASR.tame])
  case extract t i => exact absurd (tame_extract _ _) (by rw [h]; simp [ASR.tame])
  case makeFunc fn first cap => exact absurd (tame_makeFunc _ _ _) (by rw [h]; simp [ASR.tame])
  case call c =>
    unfold acall at h
    split at h
    · unfold abuiltin at h
      split at h
      · unfold alen at h; (repeat' split at h) <;> cases h
      · exact absurd (tame_fold' _ _ _) (by rw [h]; simp [ASR.tame])
      · exact absurd (tame_fold' _ _ _) (by rw [h]; simp [ASR.tame])
      · (repeat' split at h) <;> cases h
      · split at h <;> cases h
      · cases h
    · unfold acallv at h; (repeat' split at h) <;> cases h
    · cases h

theorem exec_unarr {n : Nat} {ρ : Nat → AV} {a : Act} {o : Oper} {b : Nat} {v : AV} (hi : Inv W0 C H w) (hf : RelF dds C n ρ a) (h : astepV P o.op (evA ρ) H = .unarr b v) :
    ∃ u C', (execOp a.eval o).run P w = .ok (.value u) w ∧ Rel C' v u ∧ CLe C C' ∧ Inv W0 C' (H.del b) w := by
  have hev := hf.ev
  obtain ⟨dst, op, type, pos, after, guard⟩ := o
  simp only at h
  cases op <;> simp only [astepV] at h <;> try (cases h; done)
  case slice T x lo hi' mx =>
    obtain ⟨u, C', h1, h2⟩ := s_unarr hi (hev x) (orel_map hev lo) (orel_map hev hi') (orel_map hev mx) h
    exact ⟨u, C', by simp [execOp, Sem.run_bind, h1], h2⟩
  case buildSlice T k ps =>
    split at h
    · unfold alits at h; (repeat' split at h) <;> cases h
    · exact absurd (tame_buildSlice P T k (ps.toList.map fun p => (p.1, evA ρ p.2))) (by rw [h]; simp [ASR.tame])
  case convert s d x =>
    unfold amark at h
    split at h
    · split at h
      · (repeat' split at h) <;> cases h
      · exact absurd (tame_conv _ _ _ _) (by rw [h]; simp [ASR.tame])
    · exact absurd (tame_conv _ _ _ _) (by rw [h]; simp [ASR.tame])
  case pick c x y => exact absurd (tame_pick _ _ _) (by rw [h]; simp [ASR.tame])
  case alloc T' => unfold aalloc at h; (repeat' split at h) <;> cases h
  case box T' x => unfold abox at h; (repeat' split at h) <;> cases h
  case build T ps => exact absurd (tame_build _ _ _) (by rw [h]; simp [ASR.tame])
  case load T x => exact absurd (tame_load _ _ _ _) (by rw [h]; simp [ASR.tame])
  case store T x y => unfold astore at h; (repeat' split at h) <;> cases h
  case nilCheck x => exact absurd (tame_nil _) (by rw [h]; simp [ASR.tame])
  case binOp b T x y T' => exact absurd (tame_binA _ _ _ _ _) (by rw [h]; simp [ASR.tame])
  case unOp b T x => exact absurd (tame_un _ _) (by rw [h]; simp [ASR.tame])
  case fieldAddr S x f => exact absurd (tame_faddr _ _ _ _) (by rw [h]; simp [ASR.tame])
  case field S x f => exact absurd (tame_field _ _ _ _) (by rw [h]; simp [ASR.tame])
  case indexAddr T x i => exact absurd (tame_iaddr _ _ _ _) (by rw [h]; simp [ASR.tame])
  case index T x i => exact absurd (tame_index _ _ _ _) (by rw [h]; simp [ASR.tame])
  case extract t i => exact absurd (tame_extract _ _) (by rw [h]; simp [ASR.tame])
  case makeFunc fn first cap => exact absurd (tame_makeFunc _ _ _) (by rw [h]; simp [ASR.tame])
  case call c =>
    unfold acall at h
    split at h
    · unfold abuiltin at h
      split at h
      · unfold alen at h; (repeat' split at h) <;> cases h
      · exact absurd (tame_fold' _ _ _) (by rw [h]; simp [ASR.tame])
      · exact absurd (tame_fold' _ _ _) (by rw [h]; simp [ASR.tame])
      · (repeat' split at h) <;> cases h
      · split at h <;> cases h
      · cases h
    · unfold acallv at h; (repeat' split at h) <;> cases h
    · cases h


end Rg
