/- A call does what its run over abstract values says. A call does what its run over abstract values says, on. -/
import Derived.Test.YtlhgpodfhdddkaaGreatDoorP03
set_option linter.unusedSimpArgs false
set_option linter.unusedVariables false
set_option linter.unnecessarySimpa false
namespace Rg
open Go Go.RowKit
variable {dds : List Deferred} {P : Program} {W0 : World} {C : Com} {H : Heap} {w : World}
def ASR.tame : ASR → Bool
  | .val _ | .stuck => true
  | _ => false
def ASR.quiet : ASR → Bool
  | .call _ _ => false
  | _ => true
theorem tame_pick (a b c : AV) : (apick a b c).tame = true := by unfold apick; (repeat' split) <;> rfl
theorem tame_alloc (P : Program) (T : TypeId) : (aalloc P T).quiet = true := by unfold aalloc; (repeat' split) <;> rfl
theorem tame_box (T : TypeId) (x : AV) : (abox T x).quiet = true := by unfold abox; (repeat' split) <;> rfl
theorem tame_build (P : Program) (T : TypeId) (ps : List (Nat × AV)) : (abuild P T ps).tame = true := by unfold abuild; (repeat' split) <;> rfl
theorem tame_buildSlice (P : Program) (T : TypeId) (n : Nat) (ps : List (Nat × AV)) : (abuildSlice P T n ps).tame = true := by unfold abuildSlice; (repeat' split) <;> rfl
def ASR.odd : ASR → Bool
  | .lits _ _ _ | .freeze _ _ | .unarr _ _ => true
  | _ => false
theorem tame_lits (P : Program) (T : TypeId) (r : ASR) : (alits P T r).tame = true ∨ (alits P T r).odd = true := by unfold alits; (repeat' split) <;> first | exact .inl rfl | exact .inr rfl
theorem tame_load (P : Program) (T : TypeId) (x : AV) (H : Heap) : (aload P T x H).tame = true := by unfold aload; (repeat' split) <;> rfl
theorem tame_store (P : Program) (T : TypeId) (a x : AV) (H : Heap) : (astore P T a x H).quiet = true := by unfold astore; (repeat' split) <;> rfl
theorem tame_nil (x : AV) : (anil x).tame = true := by unfold anil; (repeat' split) <;> rfl
theorem tame_ibin (op : BinOp) (k : IntKind) (a b : Int) : (ibin op k a b).tame = true := by unfold ibin; (repeat' split) <;> rfl
theorem tame_ishift (op : BinOp) (k : IntKind) (a b : Int) : (ishift op k a b).tame = true := by unfold ishift; (repeat' split) <;> rfl
theorem tame_sbin (op : BinOp) (a b : ByteArray) : (sbin op a b).tame = true := by unfold sbin; (repeat' split) <;> rfl
theorem tame_eqv (op : BinOp) (b : Bool) : (eqv op b).tame = true := by unfold eqv; (repeat' split) <;> rfl
theorem tame_bin (P : Program) (op : BinOp) (T : TypeId) (x y : AV) : (abin P op T x y).tame = true := by
  unfold abin; (repeat' split) <;> first | rfl | exact tame_ibin _ _ _ _ | exact tame_ishift _ _ _ _ | exact tame_sbin _ _ _ | exact tame_eqv _ _
theorem tame_binA (P : Program) (op : BinOp) (T : TypeId) (x y : AV) : (abinA P op T x y).tame = true := by
  unfold abinA; (repeat' split) <;> first | rfl | exact tame_bin _ _ _ _ _ | exact tame_eqv _ _
theorem tame_binI (P : Program) (op : BinOp) (T : TypeId) (ox oy : Operand) (x y : AV) : (abinI P op T ox oy x y).tame = true := by
  unfold abinI; (repeat' split) <;> first | rfl | exact tame_binA _ _ _ _ _ | exact tame_eqv _ _
theorem tame_un (op : UnOp) (x : AV) : (aun op x).tame = true := by unfold aun; (repeat' split) <;> rfl
theorem tame_conv (P : Program) (s d : TypeId) (x : AV) : (aconv P s d x).tame = true := by unfold aconv; (repeat' split) <;> rfl
theorem tame_mark (P : Program) (s d : TypeId) (x : AV) : (amark P s d x).tame = true ∨ (amark P s d x).odd = true := by
  unfold amark; (repeat' split) <;> first | exact .inl rfl | exact .inr rfl | exact .inl (tame_conv _ _ _ _)
theorem lits_val {P : Program} {T : TypeId} {r : ASR} {v : AV} (h : alits P T r = .val v) : False := by unfold alits at h; (repeat' split at h) <;> cases h
theorem mark_val {P : Program} {s d : TypeId} {x v : AV} (h : amark P s d x = .val v) : aconv P s d x = .val v := by
  unfold amark at h
  split at h
  · split at h
    · (repeat' split at h) <;> cases h
    · exact h
  · exact h
theorem no_build {P : Program} {T : TypeId} {n : Nat} {ps : List (Nat × AV)} {c : Bool} {r : ASR} (h : (if c then alits P T (abuildSlice P T n ps) else abuildSlice P T n ps) = r) (h1 : r.tame = false) (h2 : r.odd = false) : False := by
  cases c with
  | true =>
    simp only [if_true] at h
    subst h
    rcases tame_lits P T (abuildSlice P T n ps) with h | h
    · rw [h] at h1; cases h1
    · rw [h] at h2; cases h2
  | false =>
    simp only [Bool.false_eq_true, if_false] at h
    subst h
    rw [tame_buildSlice] at h1; cases h1
theorem no_mark {P : Program} {s d : TypeId} {x : AV} {r : ASR} (h : amark P s d x = r) (h1 : r.tame = false) (h2 : r.odd = false) : False := by
  subst h
  rcases tame_mark P s d x with h | h
  · rw [h] at h1; cases h1
  · rw [h] at h2; cases h2
theorem tame_slice (P : Program) (T : TypeId) (x : AV) (lo hi mx : Option AV) : (aslice P T x lo hi mx).tame = true := by unfold aslice; (repeat' split) <;> rfl
theorem slice0_val {T : TypeId} {x : AV} {lo hi mx : Option AV} {H : Heap} {P : Program} {r : ASR} (h : aslice0 P T x lo hi mx H = r) (hr : ∀ f args, r ≠ .call f args := by simp) : aunarr P T x lo hi mx H = r := by
  unfold aslice0 at h
  split at h
  · exact absurd h.symm (hr _ _)
  · exact h
theorem no_unarr {T : TypeId} {x : AV} {lo hi mx : Option AV} {H : Heap} {P : Program} {r : ASR} (h : aunarr P T x lo hi mx H = r) (h1 : r.tame = false) (h2 : ∀ b v, r ≠ .unarr b v) : False := by
  unfold aunarr at h
  split at h
  · (repeat' split at h) <;> subst h <;> first | exact absurd rfl (h2 _ _) | cases h1
  · subst h; rw [tame_slice] at h1; cases h1
theorem tame_faddr (P : Program) (S : TypeId) (x : AV) (f : Nat) : (afaddr P S x f).tame = true := by unfold afaddr; (repeat' split) <;> rfl
theorem tame_part (P : Program) (T : TypeId) (cs : List AV) (o : Nat) : (apart P T cs o).tame = true := by unfold apart; (repeat' split) <;> rfl
theorem tame_field (P : Program) (S : TypeId) (x : AV) (f : Nat) : (afield P S x f).tame = true := by unfold afield; (repeat' split) <;> first | rfl | exact tame_part _ _ _ _
theorem tame_iaddr (P : Program) (T : TypeId) (x i : AV) : (aiaddr P T x i).tame = true := by unfold aiaddr; (repeat' split) <;> rfl
theorem tame_index (P : Program) (T : TypeId) (x i : AV) : (aindex P T x i).tame = true := by unfold aindex; (repeat' split) <;> first | rfl | exact tame_part _ _ _ _
theorem tame_extract (x : AV) (i : Nat) : (aextract x i).tame = true := by unfold aextract; (repeat' split) <;> rfl
theorem tame_makeFunc (fn : Fn) (a b : List AV) : (amakeFunc fn a b).tame = true := by unfold amakeFunc; (repeat' split) <;> rfl
theorem tame_len (P : Program) (T : TypeId) (x : AV) : (alen P T x).quiet = true := by unfold alen; (repeat' split) <;> rfl
theorem tame_fold (f : AV → AV → Option AV) (l : List AV) : ∀ x, (afold f x l).quiet = true := by
  induction l with
  | nil => intro x; rfl
  | cons y ys ih => intro x; simp only [afold]; split; exact ih _; rfl
theorem tame_fold' (f : AV → AV → Option AV) (l : List AV) : ∀ x, (afold f x l).tame = true := by
  induction l with
  | nil => intro x; rfl
  | cons y ys ih => intro x; simp only [afold]; split; exact ih _; rfl
theorem VOk.exec {e : Sem Value} {r : AV} (h : VOk P W0 C H w e r) : ∃ v w' C', (do pure (Next.value (← e)) : Sem Next).run P w = .ok (.value v) w' ∧ Rel C' r v ∧ CLe C C' ∧ Inv W0 C' H w' := by
  obtain ⟨v, w', C', h1, h2⟩ := h
  exact ⟨v, w', C', by simp [Sem.run_bind, h1], h2⟩
theorem relL_map {C : Com} {f : Operand → AV} {g : Operand → Value} (h : ∀ x, Rel C (f x) (g x)) : ∀ l : List Operand, RelL C (l.map f) (l.map g)
  | [] => .nil
  | x :: l => RelL.cons (h x) (relL_map h l)
theorem relL_mapP {C : Com} {f : Operand → AV} {g : Operand → Value} (h : ∀ x, Rel C (f x) (g x)) : ∀ l : List (Nat × Operand), RelL C ((l.map fun p => (p.1, f p.2)).map (·.2)) ((l.map fun p => (p.1, g p.2)).map (·.2))
  | [] => .nil
  | x :: l => RelL.cons (h x.2) (relL_mapP h l)
theorem orel_map {C : Com} {f : Operand → AV} {g : Operand → Value} (h : ∀ x, Rel C (f x) (g x)) (o : Option Operand) : ORel C (o.map f) (o.map g) := by
  cases o with
  | none => trivial
  | some x => exact h x
theorem scs_spec {C : Com} : ∀ {l : List AV} {vs us : List Value}, scs l = some vs → RelL C l us → us = vs
  | [], vs, us, h, hr => by cases hr; simpa [scs] using h
  | x :: l, vs, us, h, hr => by
    obtain ⟨u, us', rfl, hu, hr'⟩ := hr.uncons
    cases x with
    | sc v =>
      simp only [scs] at h
      obtain ⟨vs', hv, rfl⟩ := Option.map_eq_some_iff.1 h
      have h1 := scs_spec hv hr'
      rw [h1, hu.sc_inv]
    | _ => simp [scs] at h
theorem invoke_builtin (b : Builtin) (ts : Array TypeId) (ty : TypeId) (cs : Array Bool) (args : Array Value) : invoke (.builtin b ts ty cs) args = builtin b ts ty cs args := rfl
theorem arr_of_list {α : Type} {a : Array α} {l : List α} (h : a.toList = l) : a = l.toArray := by rw [← h]
set_option maxHeartbeats 400000 in
theorem exec_val {n : Nat} {ρ : Nat → AV} {a : Act} {o : Oper} {r : AV} (hi : Inv W0 C H w) (hf : RelF dds C n ρ a) (h : astepV P o.op (evA ρ) H = .val r) :
    ∃ v w' C', (execOp a.eval o).run P w = .ok (.value v) w' ∧ Rel C' r v ∧ CLe C C' ∧ Inv W0 C' H w' := by
  have hev := hf.ev
  obtain ⟨dst, op, type, pos, after, guard⟩ := o
  simp only at h
  cases op <;> simp only [astepV] at h <;> try (cases h; done)
  case move x => cases h; exact ⟨_, w, C, by simp [execOp], hev x, CLe.refl C, hi⟩
  case assign x => cases h; exact ⟨_, w, C, by simp [execOp], hev x, CLe.refl C, hi⟩
  case pick c x y =>
    unfold apick at h
    split at h
    · rename_i t ht
      cases h
      have hc := hev c
      rw [ht] at hc
      have hc' := hc.sc_inv
      cases t
      · exact ⟨a.eval y, w, C, by simp [execOp, hc', asBool], by simpa using hev y, CLe.refl C, hi⟩
      · exact ⟨a.eval x, w, C, by simp [execOp, hc', asBool], by simpa using hev x, CLe.refl C, hi⟩
    · cases h
  case alloc T =>
    unfold aalloc at h
    split at h
    · split at h <;> cases h
    · cases h
  case box T x => unfold abox at h; split at h <;> cases h
  case build T ps =>
    simp only [execOp]
    exact VOk.exec (s_build (qs := ps.map fun p => (p.1, a.eval p.2)) hi (by simp) (by simpa using relL_mapP hev ps.toList) h)
  case buildSlice T k ps =>
    have h1 : (ps.toList.map fun p => (p.1, evA ρ p.2)).map (·.1) = (ps.map fun p => (p.1, a.eval p.2)).toList.map (·.1) := by simp
    have h2 : RelL C ((ps.toList.map fun p => (p.1, evA ρ p.2)).map (·.2)) ((ps.map fun p => (p.1, a.eval p.2)).toList.map (·.2)) := by simpa using relL_mapP hev ps.toList
    have h : abuildSlice P T k (ps.toList.map fun p => (p.1, evA ρ p.2)) = .val r := by
      split at h
      · exact (lits_val h).elim
      · exact h
    have h3 : VOk P W0 C H w (Instr.buildSlice T k (ps.map fun p => (p.1, a.eval p.2))) r := s_buildSlice hi h1 h2 h
    simp only [execOp]
    exact VOk.exec h3
  case load T x => simp only [execOp]; exact VOk.exec (s_load hi (hev x) h)
  case store T x y =>
    unfold astore at h
    split at h
    · split at h
      · split at h <;> cases h
      · cases h
    · cases h
  case nilCheck x =>
    obtain ⟨p, hp, hr⟩ := s_nil hi (hev x) h
    exact ⟨_, w, C, by simp [execOp, hp], hr, CLe.refl C, hi⟩
  case binOp b T x y T' => simp only [execOp]; exact VOk.exec (s_binI hi (hev x) (hev y) x y h)
  case unOp b T x => simp only [execOp]; exact VOk.exec (s_un hi (hev x) h)
  case convert s d x => simp only [execOp]; exact VOk.exec (s_conv hi (hev x) (mark_val h))
  case slice T x lo hi' mx => simp only [execOp]; exact VOk.exec (s_slice hi (hev x) (orel_map hev lo) (orel_map hev hi') (orel_map hev mx) (unarr_val (slice0_val h)).2)
  case fieldAddr S x f => simp only [execOp]; exact VOk.exec (s_faddr hi (hev x) h)
  case field S x f => simp only [execOp]; exact VOk.exec (s_field hi (hev x) h)
  case indexAddr T x i => simp only [execOp]; exact VOk.exec (s_iaddr hi (hev x) (hev i) h)
  case index T x i => simp only [execOp]; exact VOk.exec (s_index hi (hev x) (hev i) h)
  case extract t i => simp only [execOp]; exact VOk.exec (s_extract hi (hev t) h)
  case makeFunc fn first cap =>
    unfold amakeFunc at h
    split at h
    · rename_i xs ys hx hy
      cases h
      have h1 := scs_spec (C := C) hx (relL_map hev first.toList)
      have h2 := scs_spec (C := C) hy (relL_map hev cap.toList)
      rw [← Array.toList_map] at h1 h2
      refine ⟨_, w, C, ?_, Rel.sc _, CLe.refl C, hi⟩
      simp [execOp, Instr.makeFunc, arr_of_list h1, arr_of_list h2]
    · cases h
  case call c =>
    obtain ⟨callee, args, ats⟩ := c
    unfold acall at h
    simp only at h
    split at h
    · rename_i b
      have hargs := relL_map hev args.toList
      have hex : ∀ ww, (execOp a.eval { dst, op := .call { callee := .builtin b, args, argTypes := ats }, type, pos, after, guard }).run P ww =
          (builtin b ats type (args.map fun | .const _ => true | _ => false) (args.map a.eval)).run P ww := by
        intro ww
        simp [execOp, resolve, invoke_builtin]
        rfl
      rw [hex]
      unfold abuiltin at h
      split at h
      · cases h
      · cases h
      · rename_i T x hno ht hx
        rw [hx] at hargs
        obtain ⟨u, us, hu, hr, hn⟩ := hargs.uncons
        obtain rfl := hn.nil_inv
        rw [← Array.toList_map] at hu
        rw [arr_of_list hu]
        exact VOk.exec (s_len hi hr h ht)
      · rename_i x r' hx
        rw [hx] at hargs
        obtain ⟨u, us, hu, hr, hn⟩ := hargs.uncons
        rw [← Array.toList_map] at hu
        rw [arr_of_list hu]
        obtain ⟨q, hq, hqr⟩ := s_fold (P := P) (w := w) (g := Builtin.min2) amin2_spec r' us x r u hr hn h
        exact ⟨q, w, C, by simp [builtin, Builtin.min_, hq], hqr, CLe.refl C, hi⟩
      · rename_i x r' hx
        rw [hx] at hargs
        obtain ⟨u, us, hu, hr, hn⟩ := hargs.uncons
        rw [← Array.toList_map] at hu
        rw [arr_of_list hu]
        obtain ⟨q, hq, hqr⟩ := s_fold (P := P) (w := w) (g := Builtin.max2) amax2_spec r' us x r u hr hn h
        exact ⟨q, w, C, by simp [builtin, Builtin.max_, hq], hqr, CLe.refl C, hi⟩
      · (repeat' split at h) <;> cases h
      · cases h
      · cases h
      · cases h
      · split at h <;> cases h
      · cases h
    · unfold acallv at h
      (repeat' split at h) <;> cases h
    · cases h
theorem exec_call {n : Nat} {ρ : Nat → AV} {a : Act} {o : Oper} {f : FuncId} {args : List AV} (hf : RelF dds C n ρ a) (h : astepV P o.op (evA ρ) H = .call f args) :
    ∃ vs : List Value, RelL C args vs ∧ (((execOp a.eval o).run P w = .ok (.enter f vs.toArray) w ∧ f < P.funcs.size) ∨
      (f = P.funcs.size ∧ ∃ (T : TypeId) (u v : Value) (ty : TypeId), vs = [.int .i64 ((T : Nat) : Int), u, v] ∧ (execOp a.eval o).run P w = ((Builtin.append_ #[T, T] ty #[u, v]).run P w).andThen fun x w' => .ok (.value x) w') ∨
      (∃ l, f = P.funcs.size + 1 + l ∧ ∀ nx, (Instr.yield l vs.toArray).run P w = .ok nx w → (execOp a.eval o).run P w = .ok nx w) ∨
      (f = P.funcs.size ∧ ∃ (g : Nat) (T ty : TypeId) (xs : List Value), vs = .bool true :: .int .i64 (g : Nat) :: .int .i64 ((T : Nat) : Int) :: xs ∧
        ∀ x w', (primRun g T ty xs).run P w = .ok x w' → (execOp a.eval o).run P w = .ok (.value x) w' ∨ ((execOp a.eval o).run P w = .ok .skip w' ∧ x = undef))) := by
  have hev := hf.ev
  obtain ⟨dst, op, type, pos, after, guard⟩ := o
  simp only at h
  cases op <;> simp only [astepV] at h <;> try (cases h; done)
  case call c =>
    obtain ⟨callee, oargs, ats⟩ := c
    unfold acall at h
    simp only at h
    split at h
    · rename_i b
      have hargs := relL_map hev oargs.toList
      unfold abuiltin at h
      split at h
      · rename_i T1 m hts hxs
        cases h
        rw [hxs] at hargs
        obtain ⟨u, us, hu, hr, hn⟩ := hargs.uncons
        obtain rfl := hn.nil_inv
        rw [← Array.toList_map] at hu
        refine ⟨[.bool true, .int .i64 _, .int .i64 _, u], .sc _ (.sc _ (.sc _ (.cons hr .nil))), .inr <| .inr <| .inr ⟨rfl, 14, _, type, _, rfl, fun x w' hx => .inl ?_⟩⟩
        simp only [primRun] at hx
        simp [execOp, resolve, invoke_builtin, arr_of_list hu, builtin, arr_of_list hts, Sem.run_bind, hx]
      · rename_i T1 T2 m k hts hxs
        cases h
        rw [hxs] at hargs
        obtain ⟨u, us, hu, hr, hn⟩ := hargs.uncons
        obtain ⟨v, us', rfl, hr', hn'⟩ := hn.uncons
        obtain rfl := hn'.nil_inv
        rw [← Array.toList_map] at hu
        refine ⟨[.bool true, .int .i64 _, .int .i64 _, u, v], .sc _ (.sc _ (.sc _ (.cons hr (.cons hr' .nil)))), .inr <| .inr <| .inr ⟨rfl, 15, _, type, _, rfl, fun x w' hx => .inl ?_⟩⟩
        have he : ∀ aa : Array Value, Builtin.delete_ #[T1, T2] type aa = Builtin.delete_ #[T1] type aa := fun aa => rfl
        simp only [primRun] at hx
        simp [execOp, resolve, invoke_builtin, arr_of_list hu, builtin, arr_of_list hts, Sem.run_bind, he, hx]
      · exact absurd (tame_len _ _ _) (by rw [h]; simp [ASR.quiet])
      · exact absurd (tame_fold _ _ _) (by rw [h]; simp [ASR.quiet])
      · exact absurd (tame_fold _ _ _) (by rw [h]; simp [ASR.quiet])
      · (repeat' split at h) <;> cases h
      · rename_i T1 x hts hxs
        cases h
        rw [hxs] at hargs
        obtain ⟨u, us, hu, hr, hn⟩ := hargs.uncons
        obtain rfl := hn.nil_inv
        rw [← Array.toList_map] at hu
        refine ⟨[.bool true, .int .i64 _, .int .i64 _, u], .sc _ (.sc _ (.sc _ (.cons hr .nil))), .inr <| .inr <| .inr ⟨rfl, 16, _, type, _, rfl, fun x w' hx => .inl ?_⟩⟩
        simp only [primRun] at hx
        simp [execOp, resolve, invoke_builtin, arr_of_list hu, builtin, arr_of_list hts, Sem.run_bind, hx]
      · rename_i T1 x hts hxs
        cases h
        rw [hxs] at hargs
        obtain ⟨u, us, hu, hr, hn⟩ := hargs.uncons
        obtain rfl := hn.nil_inv
        rw [← Array.toList_map] at hu
        refine ⟨[.bool true, .int .i64 _, .int .i64 _, u], .sc _ (.sc _ (.sc _ (.cons hr .nil))), .inr <| .inr <| .inr ⟨rfl, 19, _, type, _, rfl, fun x w' hx => .inl ?_⟩⟩
        simp only [primRun] at hx
        simp [execOp, resolve, invoke_builtin, arr_of_list hu, builtin, arr_of_list hts, Sem.run_bind, hx]
      · rename_i T1 T2 x kk nn hts hxs
        cases h
        rw [hxs] at hargs
        obtain ⟨u, us, hu, hr, hn⟩ := hargs.uncons
        obtain ⟨v, us', rfl, hr', hn'⟩ := hn.uncons
        obtain rfl := hn'.nil_inv
        obtain rfl := hr'.sc_inv
        rw [← Array.toList_map] at hu
        refine ⟨[.bool true, .int .i64 _, .int .i64 _, .int .i64 _, u, .int kk nn], .sc _ (.sc _ (.sc _ (.sc _ (.cons hr (.sc _ .nil))))), .inr <| .inr <| .inr ⟨rfl, 17, _, type, _, rfl, fun x w' hx => .inl ?_⟩⟩
        have e : ((T2 : Nat) : Int).toNat = T2 := Int.toNat_natCast _
        simp only [primRun, e] at hx
        simp [execOp, resolve, invoke_builtin, arr_of_list hu, builtin, arr_of_list hts, Sem.run_bind, hx]
      · rename_i T1 T2 a1 n1 c1 ys' t2 hts hxs
        split at h
        · rename_i hTT
          subst hTT
          cases h
          rw [hxs] at hargs
          obtain ⟨u, us, hu, hr, hn⟩ := hargs.uncons
          obtain ⟨v, us', rfl, hr', hn'⟩ := hn.uncons
          obtain rfl := hn'.nil_inv
          obtain rfl := hr.sc_inv
          rw [← Array.toList_map] at hu
          refine ⟨[.int .i64 _, _, v], .sc _ (.cons (Rel.sc _) (.cons hr' .nil)), .inr (.inl ⟨rfl, _, _, v, type, rfl, ?_⟩)⟩
          simp [execOp, resolve, invoke_builtin, arr_of_list hu, builtin, arr_of_list hts]
        · cases h
      · cases h
    · rename_i fo
      unfold acallv at h
      split at h
      · rename_i k first cap hfo
        split at h
        · rename_i hc
          cases h
          have hfv := hev fo
          rw [hfo] at hfv
          have hfv := hfv.sc_inv
          unfold canCall at hc
          split at hc
          · rename_i fn hfn
            simp only [Bool.and_eq_true, Bool.not_eq_true'] at hc
            obtain ⟨hbody, hname⟩ := hc
            refine ⟨first.toList ++ (oargs.map a.eval).toList ++ cap.toList, ?_, .inl ⟨?_, (Array.getElem?_eq_some_iff.1 hfn).1⟩⟩
            rotate_left
            · have hb : ¬ (fn.body = none) := by intro hh; rw [hh] at hbody; cases hbody
              have hn : ¬ (fn.name = "runtime.NumGoroutine") := by intro hh; rw [hh] at hname; simp at hname
              simp [execOp, resolve, hfv, Deferred.ofValue, invoke, callFunc, hfn, hn, hb]
            · refine RelL.append (RelL.append ?_ ?_) ?_
              · have : ∀ l : List Value, RelL C (l.map ofV) l := fun l => by
                  induction l with
                  | nil => exact .nil
                  | cons x l ih => exact RelL.cons (rel_ofV x) ih
                exact this _
              · rw [Array.toList_map]; exact relL_map hev _
              · have : ∀ l : List Value, RelL C (l.map ofV) l := fun l => by
                  induction l with
                  | nil => exact .nil
                  | cons x l ih => exact RelL.cons (rel_ofV x) ih
                exact this _
          · cases hc
        · cases h
      · rename_i l first cap hfo
        split at h
        · rename_i hc
          cases h
          simp only [Bool.and_eq_true, Array.isEmpty_iff] at hc
          obtain ⟨rfl, rfl⟩ := hc
          have hfv := hev fo
          rw [hfo] at hfv
          have hfv := hfv.sc_inv
          refine ⟨(oargs.map a.eval).toList, ?_, .inr (.inr (.inl ⟨l, rfl, fun nx hn => ?_⟩))⟩
          · rw [Array.toList_map]; exact relL_map hev _
          · rw [Array.toArray_toList] at hn
            simpa [execOp, resolve, hfv, Deferred.ofValue, invoke] using hn
        · cases h
      · cases h
    · cases h
  case lookup T x i ok =>
    cases h
    refine ⟨[.bool true, .int .i64 _, .int .i64 _, a.eval x, a.eval i], .sc _ (.sc _ (.sc _ (.cons (hev x) (.cons (hev i) .nil)))), .inr <| .inr <| .inr ⟨rfl, _, _, type, _, rfl, fun v w' hx => .inl ?_⟩⟩
    cases ok <;> simp only [if_true, if_false, Bool.false_eq_true, primRun] at hx <;> simp [execOp, Sem.run_bind, hx]
  case mapUpdate T m k x =>
    cases h
    refine ⟨[.bool true, .int .i64 _, .int .i64 _, a.eval m, a.eval k, a.eval x], .sc _ (.sc _ (.sc _ (.cons (hev m) (.cons (hev k) (.cons (hev x) .nil))))), .inr <| .inr <| .inr ⟨rfl, 3, _, type, _, rfl, fun v w' hx => .inr ?_⟩⟩
    simp only [primRun] at hx
    rw [Sem.run_bind] at hx
    cases hq : (Instr.mapUpdate T (a.eval m) (a.eval k) (a.eval x)).run P w with
    | ok u w2 =>
      rw [hq] at hx
      simp only [Result.andThen, Sem.run_pure, Result.ok.injEq] at hx
      obtain ⟨rfl, rfl⟩ := hx
      exact ⟨by simp [execOp, Sem.run_bind, hq], rfl⟩
    | halt hh w2 => rw [hq] at hx; simp [Result.andThen] at hx
  case insert T m k x =>
    cases h
    refine ⟨[.bool true, .int .i64 _, .int .i64 _, a.eval m, a.eval k, a.eval x], .sc _ (.sc _ (.sc _ (.cons (hev m) (.cons (hev k) (.cons (hev x) .nil))))), .inr <| .inr <| .inr ⟨rfl, 3, _, type, _, rfl, fun v w' hx => .inr ?_⟩⟩
    simp only [primRun] at hx
    rw [Sem.run_bind] at hx
    cases hq : (Instr.mapUpdate T (a.eval m) (a.eval k) (a.eval x)).run P w with
    | ok u w2 =>
      rw [hq] at hx
      simp only [Result.andThen, Sem.run_pure, Result.ok.injEq] at hx
      obtain ⟨rfl, rfl⟩ := hx
      exact ⟨by simp [execOp, Sem.run_bind, hq], rfl⟩
    | halt hh w2 => rw [hq] at hx; simp [Result.andThen] at hx
  case makeMap T r =>
    cases h
    refine ⟨.bool true :: .int .i64 _ :: .int .i64 _ :: (r.map a.eval).toList, .sc _ (.sc _ (.sc _ ?_)), .inr <| .inr <| .inr ⟨rfl, 4, _, type, _, rfl, fun v w' hx => .inl ?_⟩⟩
    · cases r with
      | none => exact .nil
      | some r => exact .cons (hev r) .nil
    · cases r <;> simp only [Option.map_none, Option.map_some, Option.toList_none, Option.toList_some, primRun] at hx <;> simp [execOp, Sem.run_bind, hx]
  case mapEntry T m k =>
    cases h
    exact ⟨[.bool true, .int .i64 _, .int .i64 _, a.eval m, a.eval k], .sc _ (.sc _ (.sc _ (.cons (hev m) (.cons (hev k) .nil)))), .inr <| .inr <| .inr ⟨rfl, 6, _, type, _, rfl, fun v w' hx => .inl (by simp only [primRun] at hx; simp [execOp, Sem.run_bind, hx])⟩⟩
  case entryStore T m k x =>
    cases h
    refine ⟨[.bool true, .int .i64 _, .int .i64 _, a.eval m, a.eval k, a.eval x], .sc _ (.sc _ (.sc _ (.cons (hev m) (.cons (hev k) (.cons (hev x) .nil))))), .inr <| .inr <| .inr ⟨rfl, 7, _, type, _, rfl, fun v w' hx => .inr ?_⟩⟩
    simp only [primRun] at hx
    rw [Sem.run_bind] at hx
    cases hq : (Instr.entryStore T (a.eval m) (a.eval k) (a.eval x)).run P w with
    | ok u w2 =>
      rw [hq] at hx
      simp only [Result.andThen, Sem.run_pure, Result.ok.injEq] at hx
      obtain ⟨rfl, rfl⟩ := hx
      exact ⟨by simp [execOp, Sem.run_bind, hq], rfl⟩
    | halt hh w2 => rw [hq] at hx; simp [Result.andThen] at hx
  case range T x =>
    cases h
    exact ⟨[.bool true, .int .i64 _, .int .i64 _, a.eval x], .sc _ (.sc _ (.sc _ (.cons (hev x) .nil))), .inr <| .inr <| .inr ⟨rfl, 8, _, type, _, rfl, fun v w' hx => .inl (by simp only [primRun] at hx; simp [execOp, Sem.run_bind, hx])⟩⟩
  case next x s =>
    cases h
    exact ⟨[.bool true, .int .i64 _, .int .i64 _, .bool s, a.eval x], .sc _ (.sc _ (.sc _ (.sc _ (.cons (hev x) .nil)))), .inr <| .inr <| .inr ⟨rfl, 9, 0, type, _, rfl, fun v w' hx => .inl (by simp only [primRun] at hx; simp [execOp, Sem.run_bind, hx])⟩⟩
  case entry x =>
    cases h
    exact ⟨[.bool true, .int .i64 _, .int .i64 _, a.eval x], .sc _ (.sc _ (.sc _ (.cons (hev x) .nil))), .inr <| .inr <| .inr ⟨rfl, 10, 0, type, _, rfl, fun v w' hx => .inl (by simp only [primRun] at hx; simp [execOp, Sem.run_bind, hx])⟩⟩
  case makeSlice T x y =>
    cases h
    exact ⟨[.bool true, .int .i64 _, .int .i64 _, a.eval x, a.eval y], .sc _ (.sc _ (.sc _ (.cons (hev x) (.cons (hev y) .nil)))), .inr <| .inr <| .inr ⟨rfl, 11, _, type, _, rfl, fun v w' hx => .inl (by simp only [primRun] at hx; simp [execOp, Sem.run_bind, hx])⟩⟩
  case makeInterface T x =>
    cases h
    exact ⟨[.bool true, .int .i64 _, .int .i64 _, a.eval x], .sc _ (.sc _ (.sc _ (.cons (hev x) .nil))), .inr <| .inr <| .inr ⟨rfl, 12, _, type, _, rfl, fun v w' hx => .inl (by simp only [primRun] at hx; simp [execOp, Sem.run_bind, hx])⟩⟩
  case typeAssert x T T' ok =>
    cases h
    exact ⟨[.bool true, .int .i64 _, .int .i64 _, .int .i64 _, .bool ok, a.eval x], .sc _ (.sc _ (.sc _ (.sc _ (.sc _ (.cons (hev x) .nil))))), .inr <| .inr <| .inr ⟨rfl, 13, _, type, _, rfl, fun v w' hx => .inl (by
      have e : ((T' : Nat) : Int).toNat = T' := Int.toNat_natCast _
      simp only [primRun, e] at hx
      simp [execOp, Sem.run_bind, hx])⟩⟩
  case pick c x y => exact absurd (tame_pick _ _ _) (by rw [h]; simp [ASR.tame])
  case alloc T => exact absurd (tame_alloc _ _) (by rw [h]; simp [ASR.quiet])
  case box T x => exact absurd (tame_box _ _) (by rw [h]; simp [ASR.quiet])
  case build T ps => exact absurd (tame_build _ _ _) (by rw [h]; simp [ASR.tame])
  case buildSlice T k ps => exact (no_build h rfl rfl).elim
  case load T x => exact absurd (tame_load _ _ _ _) (by rw [h]; simp [ASR.tame])
  case store T x y => exact absurd (tame_store _ _ _ _ _) (by rw [h]; simp [ASR.quiet])
  case nilCheck x => exact absurd (tame_nil _) (by rw [h]; simp [ASR.tame])
  case binOp b T x y T' => exact absurd (tame_binI _ _ _ _ _ _ _) (by rw [h]; simp [ASR.tame])
  case unOp b T x => exact absurd (tame_un _ _) (by rw [h]; simp [ASR.tame])
  case convert s d x => exact (no_mark h rfl rfl).elim
  case slice T x lo hi' mx =>
    unfold aslice0 at h
    split at h
    · rename_i aa nn cc hx
      cases h
      have hxv := hev x
      rw [hx] at hxv
      have og : ∀ y : Option Operand, Rel C ((y.map (evA ρ)).getD (.sc undef)) ((y.map a.eval).getD undef) := fun y => by
        cases y with
        | none => exact Rel.sc _
        | some y => exact hev y
      have oi : ∀ y : Option Operand, (if (y.map (evA ρ)).isSome then some ((y.map a.eval).getD undef) else none) = y.map a.eval := fun y => by cases y <;> rfl
      refine ⟨[.bool true, .int .i64 _, .int .i64 _, .slice aa nn cc, .bool _, (lo.map a.eval).getD undef, .bool _, (hi'.map a.eval).getD undef, .bool _, (mx.map a.eval).getD undef],
        .sc _ (.sc _ (.sc _ (.sc _ (.sc _ (.cons (og lo) (.sc _ (.cons (og hi') (.sc _ (.cons (og mx) .nil))))))))), .inr <| .inr <| .inr ⟨rfl, 18, _, type, _, rfl, fun v w' hv => .inl ?_⟩⟩
      simp only [primRun, oi] at hv
      simp [execOp, Sem.run_bind, hxv.sc_inv, hv]
    · exact (no_unarr h rfl (by simp)).elim
  case fieldAddr S x f => exact absurd (tame_faddr _ _ _ _) (by rw [h]; simp [ASR.tame])
  case field S x f => exact absurd (tame_field _ _ _ _) (by rw [h]; simp [ASR.tame])
  case indexAddr T x i => exact absurd (tame_iaddr _ _ _ _) (by rw [h]; simp [ASR.tame])
  case index T x i => exact absurd (tame_index _ _ _ _) (by rw [h]; simp [ASR.tame])
  case extract t i => exact absurd (tame_extract _ _) (by rw [h]; simp [ASR.tame])
  case makeFunc fn first cap => exact absurd (tame_makeFunc _ _ _) (by rw [h]; simp [ASR.tame])
section
variable {b : Frame} {a : Act} {k : List Item} {cs : List Frame} {ops : Array Oper} {i : Nat} {rest : List Nat} {o : Oper}
theorem stepR_scope {c : Code} : step P (lone (b.atR a (.code (.scope c) :: k)) cs w) = .next (lone (b.atR a (.code c :: .inScope c :: k)) cs w) :=
  step_lone_go (by simp [stepG, stepG.exec, Frame.atR])
theorem stepR_inScope {c : Code} : step P (lone (b.atR a (.inScope c :: k)) cs w) = .next (lone (b.atR a k) cs w) :=
  step_lone_go (by simp [stepG, stepG.exec, Frame.atR])
theorem exec_defer {c : Call} {w' : World} {x : Next} (ho : o.op = .defer c) (hr : (execOp a.eval o).run P w = .ok x w') : ∃ d, x = .defer d := by
  unfold execOp at hr
  simp only [ho, Sem.run_bind, Sem.run_pure] at hr
  cases hres : (resolve a.eval c o.type).run P w with
  | ok d w2 => rw [hres] at hr; simp [Result.andThen] at hr; exact ⟨_, hr.1.symm⟩
  | halt h w2 => rw [hres] at hr; simp [Result.andThen] at hr
theorem no_defer {w' : World} {x : Next} (hr : (execOp a.eval o).run P w = .ok x w') (hx : ∀ d, x ≠ .defer d) : ∀ c, o.op ≠ .defer c := fun c ho => by
  obtain ⟨d, hd⟩ := exec_defer ho hr
  exact hx d hd
theorem step_value (ho : ops[i]? = some o) (hw : Region.wanted o (yielded ops a.tmps) = true) {v : Value} {w' : World} (hr : (execOp a.eval o).run P w = .ok (.value v) w') :
    step P (lone (b.atR a (.inRegion ops (i :: rest) :: k)) cs w) = .next (lone (b.atR (a.put o.dst v) (.inRegion ops rest :: k)) cs w') := by
  have hg := stepGR_op (P := P) (b := b) (k := k) (cs := cs) (w := w) (rest := rest) ho hw
  rw [Oper.semAt_eq _ _ _ (no_defer hr (by simp))] at hg
  have hfin : ∀ v, (b.atR a (.inRegion ops (i :: rest) :: k)).finish v = b.atR (a.put o.dst v) (.inRegion ops rest :: k) := by
    intro v; rw [Frame.finish_atR, ho]; rfl
  refine step_lone_go ?_
  rw [hg, ← hfin]; simp [stepG.apply, hr]
theorem step_skip_op (ho : ops[i]? = some o) (hw : Region.wanted o (yielded ops a.tmps) = true) {w' : World} (hr : (execOp a.eval o).run P w = .ok .skip w') :
    step P (lone (b.atR a (.inRegion ops (i :: rest) :: k)) cs w) = .next (lone (b.atR (a.put o.dst undef) (.inRegion ops rest :: k)) cs w') := by
  have hg := stepGR_op (P := P) (b := b) (k := k) (cs := cs) (w := w) (rest := rest) ho hw
  rw [Oper.semAt_eq _ _ _ (no_defer hr (by simp))] at hg
  have hfin : ∀ v, (b.atR a (.inRegion ops (i :: rest) :: k)).finish v = b.atR (a.put o.dst v) (.inRegion ops rest :: k) := by
    intro v; rw [Frame.finish_atR, ho]; rfl
  refine step_lone_go ?_
  rw [hg, ← hfin]; simp [stepG.apply, hr]
theorem step_unwanted (ho : ops[i]? = some o) (hw : Region.wanted o (yielded ops a.tmps) = false) :
    step P (lone (b.atR a (.inRegion ops (i :: rest) :: k)) cs w) = .next (lone (b.atR (a.put o.dst undef) (.inRegion ops rest :: k)) cs w) := by
  have hs := stepR_op_skip (P := P) (b := b) (a := a) (k := k) (cs := cs) (w := w) (ops := ops) (i := i) (rest := rest) (by simp [ho, hw])
  simpa only [ho, Option.bind_some] using hs
theorem steps_call {n : Nat} {ρ : Nat → AV} {f : FuncId} {args : List AV} {R : AV → Heap → Prop} (hi : Inv W0 C H w) (hf : RelF dds C n ρ a) (hv : astepV P o.op (evA ρ) H = .call f args) (hc : ACalls P f args H R)
    (ho : ops[i]? = some o) (hw : Region.wanted o (yielded ops a.tmps) = true) :
    ∃ r H' C' u w'', R r H' ∧ CLe C C' ∧ Rel C' r u ∧ Inv W0 C' H' w'' ∧ Steps P (lone (b.atR a (.inRegion ops (i :: rest) :: k)) cs w) (lone (b.atR (a.put o.dst u) (.inRegion ops rest :: k)) cs w'') := by
  obtain ⟨vs, hargs, hrun⟩ := exec_call (P := P) (w := w) hf hv
  have hfin : ∀ v, (b.atR a (.inRegion ops (i :: rest) :: k)).finish v = b.atR (a.put o.dst v) (.inRegion ops rest :: k) := by
    intro v; rw [Frame.finish_atR, ho]; rfl
  have hg := stepGR_op (P := P) (b := b) (k := k) (cs := cs) (w := w) (rest := rest) ho hw
  have hcall := hc W0 C w vs hi hargs
  have hsz : ∀ {R' : Ending → World → Prop}, Calls P f vs.toArray w (fun e w' => R' e w' ∧ ∃ v, e = .returned v) → @LT.lt Nat _ f P.funcs.size := by
    intro R' hc
    obtain ⟨e, w'', fr, ⟨_, u, rfl⟩, _, hfn, _, _, _, fn, hfn2, _⟩ := hc []
    rw [← hfn]
    exact (Array.getElem?_eq_some_iff.1 hfn2).1
  have hcalls : Calls P f vs.toArray w (fun e w' => ∃ r H' C' v, e = Ending.returned v ∧ R r H' ∧ CLe C C' ∧ Rel C' r v ∧ Inv W0 C' H' w') → @LT.lt Nat _ f P.funcs.size :=
    fun hc => hsz (R' := fun _ _ => True) (hc.mono fun e w' ⟨r, H', C', u, h1, _⟩ => ⟨trivial, u, h1⟩)
  rcases hrun with ⟨hr, hlt⟩ | ⟨hl, T, u, v, ty, hvs, hr⟩ | ⟨l, hl, hr⟩ | ⟨hl, g, T, ty, xs, hvs, hr⟩
  · rw [Oper.semAt_eq _ _ _ (no_defer hr (by simp))] at hg
    obtain ⟨e, w'', fr, ⟨r, H', C', u, rfl, hR, hC, hrel, hI⟩, hsteps, _, hleave⟩ := hcall.calls hlt (b.atR a (.inRegion ops (i :: rest) :: k) :: cs)
    have henter : step P (lone (b.atR a (.inRegion ops (i :: rest) :: k)) cs w) =
        .next (lone (Frame.enter P f vs.toArray .normal) (b.atR a (.inRegion ops (i :: rest) :: k) :: cs) w) :=
      step_lone_go (by rw [hg]; simp [stepG.apply, hr, Frame.atR])
    refine ⟨r, H', C', u, w'', hR, hC, hrel, hI, .head henter (Steps.trans hsteps (.one ?_))⟩
    rw [← hfin]; exact step_leave_returned hleave
  · rcases hcall with hcall | ⟨_, T', u', v', hvs', happ⟩ | ⟨l', hl', _⟩ | ⟨_, g', T', xs', hvs', _⟩
    · have e3 := hcalls hcall
      have e4 : @Eq Nat f P.funcs.size := hl
      omega
    · subst hvs
      have hvs2 := congrArg Array.toList hvs'
      simp at hvs2
      obtain ⟨hT, rfl, rfl⟩ := hvs2
      have hT' : T = T' := by
        have : ((T : Nat) : Int) = ((T' : Nat) : Int) := hT
        exact Int.ofNat.inj this
      subst hT'
      obtain ⟨x, w', hx, r, H', C', u2, hu2, hR, hC, hrel, hI⟩ := happ ty
      cases hu2
      rw [hx, Result.andThen_ok] at hr
      exact ⟨r, H', C', x, w', hR, hC, hrel, hI, .one (step_value ho hw hr)⟩
    · have e4 : @Eq Nat f P.funcs.size := hl
      have e5 : @Eq Nat f (P.funcs.size + 1 + l') := hl'
      omega
    · subst hvs
      simp at hvs'
  · rcases hcall with hcall | ⟨hl', _⟩ | ⟨l', hl', fn, tmps, asg, bod, hy, hrd⟩ | ⟨hl', _⟩
    rotate_right
    · have e4 : @Eq Nat f (P.funcs.size + 1 + l) := hl
      have e5 : @Eq Nat f P.funcs.size := hl'
      omega
    · have e3 := hcalls hcall
      have e4 : @Eq Nat f (P.funcs.size + 1 + l) := hl
      omega
    · have e4 : @Eq Nat f (P.funcs.size + 1 + l) := hl
      have e5 : @Eq Nat f P.funcs.size := hl'
      omega
    · obtain rfl : l' = l := Nat.add_left_cancel (hl'.symm.trans hl)
      have hr' := hr _ hy
      rw [Oper.semAt_eq _ _ _ (no_defer hr' (by simp))] at hg
      obtain ⟨v, w'', ⟨r, H', C', u, hu, hR, hC, hrel, hI⟩, hsteps⟩ := hrd (b.atR a (.inRegion ops (i :: rest) :: k)) cs
      cases hu
      have henter : step P (lone (b.atR a (.inRegion ops (i :: rest) :: k)) cs w) =
          .next (lone (Frame.round l' fn tmps asg bod .normal) (b.atR a (.inRegion ops (i :: rest) :: k) :: cs) w) :=
        step_lone_go (by rw [hg]; simp [stepG.apply, hr', Frame.atR])
      refine ⟨r, H', C', v, w'', hR, hC, hrel, hI, .head henter ?_⟩
      rw [hfin] at hsteps
      exact hsteps
  · rcases hcall with hcall | ⟨_, T', u', v', hvs', _⟩ | ⟨l', hl', _⟩ | ⟨_, g', T', xs', hvs', hp⟩
    · have e3 := hcalls hcall
      have e4 : @Eq Nat f P.funcs.size := hl
      omega
    · subst hvs
      simp at hvs'
    · have e4 : @Eq Nat f P.funcs.size := hl
      have e5 : @Eq Nat f (P.funcs.size + 1 + l') := hl'
      omega
    · subst hvs
      simp only [List.cons.injEq, Value.int.injEq, true_and] at hvs'
      obtain ⟨hg1, hT1, rfl⟩ := hvs'
      obtain rfl : g = g' := Int.ofNat.inj hg1
      have hT' : T = T' := by
        have : ((T : Nat) : Int) = ((T' : Nat) : Int) := hT1
        exact Int.ofNat.inj this
      subst hT'
      obtain ⟨x, w', hx, r, H', C', u2, hu2, hR, hC, hrel, hI⟩ := hp ty
      cases hu2
      rcases hr x w' hx with hr | ⟨hr, rfl⟩
      · exact ⟨r, H', C', x, w', hR, hC, hrel, hI, .one (step_value ho hw hr)⟩
      · exact ⟨r, H', C', undef, w', hR, hC, hrel, hI, .one (step_skip_op ho hw hr)⟩
end
end Rg
namespace Rg
open Go Go.RowKit
variable {dds : List Deferred} {P : Program} {W0 : World} {C : Com} {H : Heap} {w : World}
theorem exec_alloc {n : Nat} {ρ : Nat → AV} {a : Act} {o : Oper} {cs : List AV} {T : TypeId} (hi : Inv W0 C H w) (hf : RelF dds C n ρ a) (h : astepV P o.op (evA ρ) H = .alloc cs T) :
    ∃ b w', (execOp a.eval o).run P w = .ok (.value (.pointer (some ⟨b, 0, none⟩))) w' ∧ H b = none ∧ Inv W0 C (H.set b (.cells cs T)) w' := by
  have hev := hf.ev
  obtain ⟨dst, op, type, pos, after, guard⟩ := o
  simp only at h
  cases op <;> simp only [astepV] at h <;> try (cases h; done)
  case alloc T' =>
    obtain ⟨b, w', h1, h2⟩ := s_alloc hi h
    exact ⟨b, w', by simp [execOp, Sem.run_bind, h1], h2⟩
  case box T' x =>
    obtain ⟨b, w', h1, h2⟩ := s_box (P := P) hi (hev x) h
    exact ⟨b, w', by simp [execOp, Sem.run_bind, h1], h2⟩
  case pick c x y => exact absurd (tame_pick _ _ _) (by rw [h]; simp [ASR.tame])
  case build T ps => exact absurd (tame_build _ _ _) (by rw [h]; simp [ASR.tame])
  case buildSlice T k ps => exact (no_build h rfl rfl).elim
  case load T x => exact absurd (tame_load _ _ _ _) (by rw [h]; simp [ASR.tame])
  case store T x y => unfold astore at h; (repeat' split at h) <;> cases h
  case nilCheck x => exact absurd (tame_nil _) (by rw [h]; simp [ASR.tame])
  case binOp b T x y T' => exact absurd (tame_binI _ _ _ _ _ _ _) (by rw [h]; simp [ASR.tame])
  case unOp b T x => exact absurd (tame_un _ _) (by rw [h]; simp [ASR.tame])
  case convert s d x => exact (no_mark h rfl rfl).elim
  case slice T x lo hi' mx => exact (no_unarr (slice0_val h) rfl (by simp)).elim
  case fieldAddr S x f => exact absurd (tame_faddr _ _ _ _) (by rw [h]; simp [ASR.tame])
  case field S x f => exact absurd (tame_field _ _ _ _) (by rw [h]; simp [ASR.tame])
  case indexAddr T x i => exact absurd (tame_iaddr _ _ _ _) (by rw [h]; simp [ASR.tame])
  case index T x i => exact absurd (tame_index _ _ _ _) (by rw [h]; simp [ASR.tame])
  case extract t i => exact absurd (tame_extract _ _) (by rw [h]; simp [ASR.tame])
  case makeFunc fn first cap => exact absurd (tame_makeFunc _ _ _) (by rw [h]; simp [ASR.tame])
  case call c =>
    unfold acall at h
    split at h
    · unfold abuiltin at h
      split at h
      · cases h
      · cases h
      · unfold alen at h; (repeat' split at h) <;> cases h
      · exact absurd (tame_fold' _ _ _) (by rw [h]; simp [ASR.tame])
      · exact absurd (tame_fold' _ _ _) (by rw [h]; simp [ASR.tame])
      · (repeat' split at h) <;> cases h
      · cases h
      · cases h
      · cases h
      · split at h <;> cases h
      · cases h
    · unfold acallv at h; (repeat' split at h) <;> cases h
    · cases h
theorem exec_store {n : Nat} {ρ : Nat → AV} {a : Act} {o : Oper} {b off : Nat} {ds : List AV} (hi : Inv W0 C H w) (hf : RelF dds C n ρ a) (h : astepV P o.op (evA ρ) H = .store b off ds) :
    ∃ cs T w', H b = some (.cells cs T) ∧ (execOp a.eval o).run P w = .ok .skip w' ∧ Inv W0 C (H.set b (.cells (lset cs off ds) T)) w' := by
  have hev := hf.ev
  obtain ⟨dst, op, type, pos, after, guard⟩ := o
  simp only at h
  cases op <;> simp only [astepV] at h <;> try (cases h; done)
  case store T x y =>
    obtain ⟨cs, T', w', h1, h2, h3⟩ := s_store hi (hev x) (hev y) h
    exact ⟨cs, T', w', h1, by simp [execOp, Sem.run_bind, h2], h3⟩
  case alloc T' => unfold aalloc at h; (repeat' split at h) <;> cases h
  case box T' x => unfold abox at h; (repeat' split at h) <;> cases h
  case pick c x y => exact absurd (tame_pick _ _ _) (by rw [h]; simp [ASR.tame])
  case build T ps => exact absurd (tame_build _ _ _) (by rw [h]; simp [ASR.tame])
  case buildSlice T k ps => exact (no_build h rfl rfl).elim
  case load T x => exact absurd (tame_load _ _ _ _) (by rw [h]; simp [ASR.tame])
  case nilCheck x => exact absurd (tame_nil _) (by rw [h]; simp [ASR.tame])
  case binOp b T x y T' => exact absurd (tame_binI _ _ _ _ _ _ _) (by rw [h]; simp [ASR.tame])
  case unOp b T x => exact absurd (tame_un _ _) (by rw [h]; simp [ASR.tame])
  case convert s d x => exact (no_mark h rfl rfl).elim
  case slice T x lo hi' mx => exact (no_unarr (slice0_val h) rfl (by simp)).elim
  case fieldAddr S x f => exact absurd (tame_faddr _ _ _ _) (by rw [h]; simp [ASR.tame])
  case field S x f => exact absurd (tame_field _ _ _ _) (by rw [h]; simp [ASR.tame])
  case indexAddr T x i => exact absurd (tame_iaddr _ _ _ _) (by rw [h]; simp [ASR.tame])
  case index T x i => exact absurd (tame_index _ _ _ _) (by rw [h]; simp [ASR.tame])
  case extract t i => exact absurd (tame_extract _ _) (by rw [h]; simp [ASR.tame])
  case makeFunc fn first cap => exact absurd (tame_makeFunc _ _ _) (by rw [h]; simp [ASR.tame])
  case call c =>
    unfold acall at h
    split at h
    · unfold abuiltin at h
      split at h
      · cases h
      · cases h
      · unfold alen at h; (repeat' split at h) <;> cases h
      · exact absurd (tame_fold' _ _ _) (by rw [h]; simp [ASR.tame])
      · exact absurd (tame_fold' _ _ _) (by rw [h]; simp [ASR.tame])
      · (repeat' split at h) <;> cases h
      · cases h
      · cases h
      · cases h
      · split at h <;> cases h
      · cases h
    · unfold acallv at h; (repeat' split at h) <;> cases h
    · cases h
theorem exec_app {n : Nat} {ρ : Nat → AV} {a : Act} {o : Oper} {T e : TypeId} {xs ys : List AV} {t : Tok} (hf : RelF dds C n ρ a) (h : astepV P o.op (evA ρ) H = .app T e xs t ys) :
    ∃ (ty : TypeId) (u v : Value) (t' : Tok), (∀ w, (execOp a.eval o).run P w = ((Builtin.append_ #[T, T] ty #[u, v]).run P w).andThen fun x w' => .ok (.value x) w') ∧ Rel C (.sl xs t) u ∧ Rel C (.sl ys t') v := by
  have hev := hf.ev
  obtain ⟨dst, op, type, pos, after, guard⟩ := o
  simp only at h
  cases op <;> simp only [astepV] at h <;> try (cases h; done)
  case call c =>
    obtain ⟨callee, args, ats⟩ := c
    unfold acall at h
    simp only at h
    split at h
    · rename_i b
      have hargs := relL_map hev args.toList
      unfold abuiltin at h
      split at h
      · cases h
      · cases h
      · unfold alen at h; (repeat' split at h) <;> cases h
      · exact absurd (tame_fold' _ _ _) (by rw [h]; simp [ASR.tame])
      · exact absurd (tame_fold' _ _ _) (by rw [h]; simp [ASR.tame])
      · rename_i T1 T2 xs' t1 ys' t2 hts hxs
        split at h
        · rename_i hTT
          subst hTT
          split at h
          case h_2 => cases h
          cases h
          rw [hxs] at hargs
          obtain ⟨u, us, hu, hr, hn⟩ := hargs.uncons
          obtain ⟨v, us', rfl, hr', hn'⟩ := hn.uncons
          obtain rfl := hn'.nil_inv
          rw [← Array.toList_map] at hu
          refine ⟨type, u, v, t2, fun ww => ?_, hr, hr'⟩
          simp [execOp, resolve, invoke_builtin, arr_of_list hu, builtin, arr_of_list hts]
        · cases h
      · cases h
      · cases h
      · cases h
      · split at h <;> cases h
      · cases h
    · unfold acallv at h; (repeat' split at h) <;> cases h
    · cases h
  case store T x y => unfold astore at h; (repeat' split at h) <;> cases h
  case alloc T' => unfold aalloc at h; (repeat' split at h) <;> cases h
  case box T' x => unfold abox at h; (repeat' split at h) <;> cases h
  case pick c x y => exact absurd (tame_pick _ _ _) (by rw [h]; simp [ASR.tame])
  case build T ps => exact absurd (tame_build _ _ _) (by rw [h]; simp [ASR.tame])
  case buildSlice T k ps => exact (no_build h rfl rfl).elim
  case load T x => exact absurd (tame_load _ _ _ _) (by rw [h]; simp [ASR.tame])
  case nilCheck x => exact absurd (tame_nil _) (by rw [h]; simp [ASR.tame])
  case binOp b T x y T' => exact absurd (tame_binI _ _ _ _ _ _ _) (by rw [h]; simp [ASR.tame])
  case unOp b T x => exact absurd (tame_un _ _) (by rw [h]; simp [ASR.tame])
  case convert s d x => exact (no_mark h rfl rfl).elim
  case slice T x lo hi' mx => exact (no_unarr (slice0_val h) rfl (by simp)).elim
  case fieldAddr S x f => exact absurd (tame_faddr _ _ _ _) (by rw [h]; simp [ASR.tame])
  case field S x f => exact absurd (tame_field _ _ _ _) (by rw [h]; simp [ASR.tame])
  case indexAddr T x i => exact absurd (tame_iaddr _ _ _ _) (by rw [h]; simp [ASR.tame])
  case index T x i => exact absurd (tame_index _ _ _ _) (by rw [h]; simp [ASR.tame])
  case extract t i => exact absurd (tame_extract _ _) (by rw [h]; simp [ASR.tame])
  case makeFunc fn first cap => exact absurd (tame_makeFunc _ _ _) (by rw [h]; simp [ASR.tame])
theorem exec_lits {n : Nat} {ρ : Nat → AV} {a : Act} {o : Oper} {e : TypeId} {sz : Nat} {xs : List AV} (hi : Inv W0 C H w) (hf : RelF dds C n ρ a) (h : astepV P o.op (evA ρ) H = .lits e sz xs) :
    ∃ v g w' C', (execOp a.eval o).run P w = .ok (.value v) w' ∧ H g = none ∧ CLe C C' ∧ Rel C' (.sl xs (.own g xs.length sz e)) v ∧ Inv W0 C' (H.set g (.open xs.length xs.length sz e)) w' := by
  have hev := hf.ev
  obtain ⟨dst, op, type, pos, after, guard⟩ := o
  simp only at h
  cases op <;> simp only [astepV] at h <;> try (cases h; done)
  case buildSlice T k ps =>
    have h1 : (ps.toList.map fun p => (p.1, evA ρ p.2)).map (·.1) = (ps.map fun p => (p.1, a.eval p.2)).toList.map (·.1) := by simp
    have h2 : RelL C ((ps.toList.map fun p => (p.1, evA ρ p.2)).map (·.2)) ((ps.map fun p => (p.1, a.eval p.2)).toList.map (·.2)) := by simpa using relL_mapP hev ps.toList
    have h : alits P T (abuildSlice P T k (ps.toList.map fun p => (p.1, evA ρ p.2))) = .lits e sz xs := by
      split at h
      · exact h
      · exact absurd (tame_buildSlice P T k (ps.toList.map fun p => (p.1, evA ρ p.2))) (by rw [h]; simp [ASR.tame])
    obtain ⟨v, g, w', C', h3, h4⟩ := s_lits (P := P) hi h1 h2 h
    exact ⟨v, g, w', C', by simp [execOp, Sem.run_bind, h3], h4⟩
  case convert s d x =>
    unfold amark at h
    split at h
    · split at h
      · (repeat' split at h) <;> cases h
      · exact absurd (tame_conv _ _ _ _) (by rw [h]; simp [ASR.tame])
    · exact absurd (tame_conv _ _ _ _) (by rw [h]; simp [ASR.tame])
  case pick c x y => exact absurd (tame_pick _ _ _) (by rw [h]; simp [ASR.tame])
  case alloc T' => unfold aalloc at h; (repeat' split at h) <;> cases h
  case box T' x => unfold abox at h; (repeat' split at h) <;> cases h
  case build T ps => exact absurd (tame_build _ _ _) (by rw [h]; simp [ASR.tame])
  case load T x => exact absurd (tame_load _ _ _ _) (by rw [h]; simp [ASR.tame])
  case store T x y => unfold astore at h; (repeat' split at h) <;> cases h
  case nilCheck x => exact absurd (tame_nil _) (by rw [h]; simp [ASR.tame])
  case binOp b T x y T' => exact absurd (tame_binI _ _ _ _ _ _ _) (by rw [h]; simp [ASR.tame])
  case unOp b T x => exact absurd (tame_un _ _) (by rw [h]; simp [ASR.tame])
  case slice T x lo hi' mx => exact (no_unarr (slice0_val h) rfl (by simp)).elim
  case fieldAddr S x f => exact absurd (tame_faddr _ _ _ _) (by rw [h]; simp [ASR.tame])
  case field S x f => exact absurd (tame_field _ _ _ _) (by rw [h]; simp [ASR.tame])
  case indexAddr T x i => exact absurd (tame_iaddr _ _ _ _) (by rw [h]; simp [ASR.tame])
  case index T x i => exact absurd (tame_index _ _ _ _) (by rw [h]; simp [ASR.tame])
  case extract t i => exact absurd (tame_extract _ _) (by rw [h]; simp [ASR.tame])
  case makeFunc fn first cap => exact absurd (tame_makeFunc _ _ _) (by rw [h]; simp [ASR.tame])
  case call c =>
    unfold acall at h
    split at h
    · unfold abuiltin at h
      split at h
      · cases h
      · cases h
      · unfold alen at h; (repeat' split at h) <;> cases h
      · exact absurd (tame_fold' _ _ _) (by rw [h]; simp [ASR.tame])
      · exact absurd (tame_fold' _ _ _) (by rw [h]; simp [ASR.tame])
      · (repeat' split at h) <;> cases h
      · cases h
      · cases h
      · cases h
      · split at h <;> cases h
      · cases h
    · unfold acallv at h; (repeat' split at h) <;> cases h
    · cases h
theorem exec_freeze {n : Nat} {ρ : Nat → AV} {a : Act} {o : Oper} {g m cap sz : Nat} {T : TypeId} {v : AV} (hi : Inv W0 C H w) (hf : RelF dds C n ρ a) (h : astepV P o.op (evA ρ) H = .freeze g v) (hg : H g = some (.open m cap sz T)) :
    ∃ u w', (execOp a.eval o).run P w = .ok (.value u) w' ∧ Rel C v u ∧ Inv W0 C (H.del g) w' := by
  have hev := hf.ev
  obtain ⟨dst, op, type, pos, after, guard⟩ := o
  simp only at h
  cases op <;> simp only [astepV] at h <;> try (cases h; done)
  case buildSlice T k ps =>
    split at h
    · unfold alits at h; (repeat' split at h) <;> cases h
    · exact absurd (tame_buildSlice P T k (ps.toList.map fun p => (p.1, evA ρ p.2))) (by rw [h]; simp [ASR.tame])
  case convert s d x =>
    unfold amark at h
    split at h
    · rename_i xs g' cap' sz' T' hx
      split at h
      · rename_i hc
        split at h
        · rename_i e he
          split at h
          · rename_i hk
            cases h
            have hr := hev x
            rw [hx] at hr
            obtain ⟨w', h1, h2⟩ := s_mark (P := P) hi hr hc.1 he hk hg
            exact ⟨_, w', by simp [execOp, Sem.run_bind, h1], hr.forget, h2⟩
          · cases h
        · cases h
      · exact absurd (tame_conv _ _ _ _) (by rw [h]; simp [ASR.tame])
    · exact absurd (tame_conv _ _ _ _) (by rw [h]; simp [ASR.tame])
  case pick c x y => exact absurd (tame_pick _ _ _) (by rw [h]; simp [ASR.tame])
  case alloc T' => unfold aalloc at h; (repeat' split at h) <;> cases h
  case box T' x => unfold abox at h; (repeat' split at h) <;> cases h
  case build T ps => exact absurd (tame_build _ _ _) (by rw [h]; simp [ASR.tame])
  case load T x => exact absurd (tame_load _ _ _ _) (by rw [h]; simp [ASR.tame])
  case store T x y => unfold astore at h; (repeat' split at h) <;> cases h
  case nilCheck x => exact absurd (tame_nil _) (by rw [h]; simp [ASR.tame])
  case binOp b T x y T' => exact absurd (tame_binI _ _ _ _ _ _ _) (by rw [h]; simp [ASR.tame])
  case unOp b T x => exact absurd (tame_un _ _) (by rw [h]; simp [ASR.tame])
  case slice T x lo hi' mx => exact (no_unarr (slice0_val h) rfl (by simp)).elim
  case fieldAddr S x f => exact absurd (tame_faddr _ _ _ _) (by rw [h]; simp [ASR.tame])
  case field S x f => exact absurd (tame_field _ _ _ _) (by rw [h]; simp [ASR.tame])
  case indexAddr T x i => exact absurd (tame_iaddr _ _ _ _) (by rw [h]; simp [ASR.tame])
  case index T x i => exact absurd (tame_index _ _ _ _) (by rw [h]; simp [ASR.tame])
  case extract t i => exact absurd (tame_extract _ _) (by rw [h]; simp [ASR.tame])
  case makeFunc fn first cap => exact absurd (tame_makeFunc _ _ _) (by rw [h]; simp [ASR.tame])
  case call c =>
    unfold acall at h
    split at h
    · unfold abuiltin at h
      split at h
      · cases h
      · cases h
      · unfold alen at h; (repeat' split at h) <;> cases h
      · exact absurd (tame_fold' _ _ _) (by rw [h]; simp [ASR.tame])
      · exact absurd (tame_fold' _ _ _) (by rw [h]; simp [ASR.tame])
      · (repeat' split at h) <;> cases h
      · cases h
      · cases h
      · cases h
      · split at h <;> cases h
      · cases h
    · unfold acallv at h; (repeat' split at h) <;> cases h
    · cases h
theorem exec_unarr {n : Nat} {ρ : Nat → AV} {a : Act} {o : Oper} {b : Nat} {v : AV} (hi : Inv W0 C H w) (hf : RelF dds C n ρ a) (h : astepV P o.op (evA ρ) H = .unarr b v) :
    ∃ u C', (execOp a.eval o).run P w = .ok (.value u) w ∧ Rel C' v u ∧ CLe C C' ∧ Inv W0 C' (H.del b) w := by
  have hev := hf.ev
  obtain ⟨dst, op, type, pos, after, guard⟩ := o
  simp only at h
  cases op <;> simp only [astepV] at h <;> try (cases h; done)
  case slice T x lo hi' mx =>
    obtain ⟨u, C', h1, h2⟩ := s_unarr hi (hev x) (orel_map hev lo) (orel_map hev hi') (orel_map hev mx) (slice0_val h)
    exact ⟨u, C', by simp [execOp, Sem.run_bind, h1], h2⟩
  case buildSlice T k ps =>
    split at h
    · unfold alits at h; (repeat' split at h) <;> cases h
    · exact absurd (tame_buildSlice P T k (ps.toList.map fun p => (p.1, evA ρ p.2))) (by rw [h]; simp [ASR.tame])
  case convert s d x =>
    unfold amark at h
    split at h
    · split at h
      · (repeat' split at h) <;> cases h
      · exact absurd (tame_conv _ _ _ _) (by rw [h]; simp [ASR.tame])
    · exact absurd (tame_conv _ _ _ _) (by rw [h]; simp [ASR.tame])
  case pick c x y => exact absurd (tame_pick _ _ _) (by rw [h]; simp [ASR.tame])
  case alloc T' => unfold aalloc at h; (repeat' split at h) <;> cases h
  case box T' x => unfold abox at h; (repeat' split at h) <;> cases h
  case build T ps => exact absurd (tame_build _ _ _) (by rw [h]; simp [ASR.tame])
  case load T x => exact absurd (tame_load _ _ _ _) (by rw [h]; simp [ASR.tame])
  case store T x y => unfold astore at h; (repeat' split at h) <;> cases h
  case nilCheck x => exact absurd (tame_nil _) (by rw [h]; simp [ASR.tame])
  case binOp b T x y T' => exact absurd (tame_binI _ _ _ _ _ _ _) (by rw [h]; simp [ASR.tame])
  case unOp b T x => exact absurd (tame_un _ _) (by rw [h]; simp [ASR.tame])
  case fieldAddr S x f => exact absurd (tame_faddr _ _ _ _) (by rw [h]; simp [ASR.tame])
  case field S x f => exact absurd (tame_field _ _ _ _) (by rw [h]; simp [ASR.tame])
  case indexAddr T x i => exact absurd (tame_iaddr _ _ _ _) (by rw [h]; simp [ASR.tame])
  case index T x i => exact absurd (tame_index _ _ _ _) (by rw [h]; simp [ASR.tame])
  case extract t i => exact absurd (tame_extract _ _) (by rw [h]; simp [ASR.tame])
  case makeFunc fn first cap => exact absurd (tame_makeFunc _ _ _) (by rw [h]; simp [ASR.tame])
  case call c =>
    unfold acall at h
    split at h
    · unfold abuiltin at h
      split at h
      · cases h
      · cases h
      · unfold alen at h; (repeat' split at h) <;> cases h
      · exact absurd (tame_fold' _ _ _) (by rw [h]; simp [ASR.tame])
      · exact absurd (tame_fold' _ _ _) (by rw [h]; simp [ASR.tame])
      · (repeat' split at h) <;> cases h
      · cases h
      · cases h
      · cases h
      · split at h <;> cases h
      · cases h
    · unfold acallv at h; (repeat' split at h) <;> cases h
    · cases h
end Rg
