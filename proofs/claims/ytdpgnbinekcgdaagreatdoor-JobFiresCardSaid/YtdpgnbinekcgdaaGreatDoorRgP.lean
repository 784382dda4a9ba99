/- Pieces of a run: what a piece does is said once, for all that follows it. -/
import Derived.Test.YtdpgnbinekcgdaaGreatDoorRgN
namespace Rg
open Go Go.RowKit

def noRetC : Code → Bool
  | .ret => false
  | .rangeFunc _ _ _ _ => false
  | .seq a b => noRetC a && noRetC b
  | .cond _ a b => noRetC a && noRetC b
  | .block _ c => noRetC c
  | .loop c => noRetC c
  | .scope c => noRetC c
  | _ => true
def noRetI : AItem → Bool
  | .code c => noRetC c
  | .lp c => noRetC c
  | .scp c => true
  | .bgn _ => false
  | _ => true

variable {P : Program} {n : Nat} {Q : Post} {J : (Nat → AV) → Heap → Prop} {ρ : Nat → AV} {H : Heap} {k : List AItem}

theorem aexit_append {id : Nat} : ∀ {l r k : List AItem}, aexit id l = some r → aexit id (l ++ k) = some (r ++ k)
  | [], r, k, h => by cases h
  | .blk id' :: l, r, k, h => by
    simp only [List.cons_append, aexit] at *
    split at h
    · cases h; rw [if_pos (by assumption)]
    · rw [if_neg (by assumption)]; exact aexit_append h
  | .code c :: l, r, k, h => by simp only [List.cons_append, aexit] at *; exact aexit_append h
  | .lp c :: l, r, k, h => by simp only [List.cons_append, aexit] at *; exact aexit_append h
  | .scp c :: l, r, k, h => by simp only [List.cons_append, aexit] at *; exact aexit_append h
  | .ops f o :: l, r, k, h => by simp only [List.cons_append, aexit] at *; exact aexit_append h
  | .bgn i :: l, r, k, h => by simp only [List.cons_append, aexit] at *; exact aexit_append h

theorem aexit_noRet {id : Nat} : ∀ {l r : List AItem}, l.all noRetI = true → aexit id l = some r → r.all noRetI = true
  | [], r, _, h => by cases h
  | .blk id' :: l, r, hl, h => by
    simp only [List.all_cons, Bool.and_eq_true] at hl
    simp only [aexit] at h
    split at h
    · cases h; exact hl.2
    · exact aexit_noRet hl.2 h
  | .code c :: l, r, hl, h => by simp only [List.all_cons, Bool.and_eq_true] at hl; simp only [aexit] at h; exact aexit_noRet hl.2 h
  | .lp c :: l, r, hl, h => by simp only [List.all_cons, Bool.and_eq_true] at hl; simp only [aexit] at h; exact aexit_noRet hl.2 h
  | .scp c :: l, r, hl, h => by simp only [List.all_cons, Bool.and_eq_true] at hl; simp only [aexit] at h; exact aexit_noRet hl.2 h
  | .ops f o :: l, r, hl, h => by simp only [List.all_cons, Bool.and_eq_true] at hl; simp only [aexit] at h; exact aexit_noRet hl.2 h
  | .bgn i :: l, r, hl, h => by simp [noRetI] at hl

/-- A piece that never ends the call, then the rest. -/
theorem AGo.cutQ {Qj : Post} {l : List AItem} (h : AGo P n Qj l ρ H) (hJ : ∀ ρ' H', Qj.nrm ρ' H' → J ρ' H') (hO : ∀ id ρ' H', Qj.out id ρ' H' → False) (hl : l.all noRetI = true) (hk : ∀ ρ' H', J ρ' H' → AGo P n Q k ρ' H') : AGo P n Q (l ++ k) ρ H := by
  induction h with
  | nil hq => exact hk _ _ (hJ _ _ hq)
  | out _ hq => exact (hO _ _ _ hq).elim
  | bgn _ _ _ _ _ => simp [noRetI] at hl
  | rangeF _ _ _ _ _ _ _ _ => simp [noRetI, noRetC] at hl
  | ret hq => simp [noRetI, noRetC] at hl
  | skip _ ih => exact .skip (ih hJ hO (by simpa [noRetI, noRetC] using hl))
  | label _ ih => exact .label (ih hJ hO (by simpa [noRetI, noRetC] using hl))
  | seq _ ih => exact .seq (ih hJ hO (by simpa [noRetI, noRetC, and_assoc] using hl))
  | cond he _ ih =>
    refine .cond he (ih hJ hO ?_)
    simp only [List.all_cons, noRetI, noRetC, Bool.and_eq_true] at hl ⊢
    refine ⟨?_, hl.2⟩
    split
    · exact hl.1.1
    · exact hl.1.2
  | block _ ih => exact .block (ih hJ hO (by simpa [noRetI, noRetC] using hl))
  | blk _ ih => exact .blk (ih hJ hO (by simpa [noRetI] using hl))
  | scope _ ih => exact .scope (ih hJ hO (by simpa [noRetI, noRetC] using hl))
  | scp _ ih => exact .scp (ih hJ hO (by simpa [noRetI] using hl))
  | loop he hn _ ih => exact .loop he hn (ih hJ hO (by simpa [noRetI, noRetC] using hl))
  | lp he hn _ ih => exact .lp he hn (ih hJ hO (by simpa [noRetI, noRetC] using hl))
  | exit he _ ih => exact .exit (aexit_append he) (ih hJ hO (aexit_noRet (by simpa [noRetI, noRetC] using hl) he))
  | region _ ih => exact .region (ih hJ hO (by simpa [noRetI, noRetC] using hl))
  | draw m h1 h2 h3 _ ih => exact .draw m h1 h2 h3 (ih hJ hO (by simpa [noRetI, noRetC] using hl))
  | draw2 m A B H0 R h1 h2 h3 h4 _ ih => exact .draw2 m A B H0 R h1 h2 h3 h4 fun r K hr => ih r K hr hJ hO (by simpa [noRetI, noRetC] using hl)
  | draw3 A lst H0 R h1 h2 h3 h4 h5 _ ih => exact .draw3 A lst H0 R h1 h2 h3 h4 h5 fun r K hr => ih r K hr hJ hO (by simpa [noRetI, noRetC] using hl)
  | opsNil _ ih => exact .opsNil (ih hJ hO (by simpa [noRetI, noRetC] using hl))
  | opY h1 _ ih => exact .opY h1 (ih hJ hO (by simpa [noRetI, noRetC] using hl))
  | opCall h1 h2 h3 _ ih => exact .opCall h1 h2 h3 fun v H' hr => ih v H' hr hJ hO (by simpa [noRetI, noRetC] using hl)
  | opAlloc h1 h2 _ ih => exact .opAlloc h1 h2 fun b hb => ih b hb hJ hO (by simpa [noRetI, noRetC] using hl)
  | opStore h1 h2 h3 _ ih => exact .opStore h1 h2 h3 (ih hJ hO (by simpa [noRetI, noRetC] using hl))
  | opLits h1 h2 _ ih => exact .opLits h1 h2 fun b hb => ih b hb hJ hO (by simpa [noRetI, noRetC] using hl)
  | opFreeze h1 h2 h3 _ ih => exact .opFreeze h1 h2 h3 (ih hJ hO (by simpa [noRetI, noRetC] using hl))
  | opUnarr h1 h2 _ ih => exact .opUnarr h1 h2 (ih hJ hO (by simpa [noRetI, noRetC] using hl))
  | opNew h1 h2 h3 h4 h5 h6 h7 h8 h9 _ ih => exact .opNew h1 h2 h3 h4 h5 h6 h7 h8 h9 fun g cap hg => ih g cap hg hJ hO (by simpa [noRetI, noRetC] using hl)
  | opOwn h1 h2 h3 h4 h5 h6 h7 h8 _ ih => exact .opOwn h1 h2 h3 h4 h5 h6 h7 h8 fun g cap hg => ih g cap hg hJ hO (by simpa [noRetI, noRetC] using hl)

theorem AGo.cut {l : List AItem} {ro : Option Nat} (h : AGo P n (Post.of J ro) l ρ H) (hl : l.all noRetI = true) (hk : ∀ ρ' H', J ρ' H' → AGo P n Q k ρ' H') : AGo P n Q (l ++ k) ρ H :=
  AGo.cutQ h (fun _ _ h => h) (fun _ _ _ h => h) hl hk

/-- A test, both of whose ways meet again. -/
theorem ABr.cut {t : Bool} {a b : Code} (J : (Nat → AV) → Heap → Prop) (ha : t = true → AGo P n (Post.of J none) [.code a] ρ H) (hb : t = false → AGo P n (Post.of J none) [.code b] ρ H)
    (hk : ∀ ρ' H', J ρ' H' → AGo P n Q k ρ' H') (hl : (noRetC a && noRetC b) = true) : ABr (.sc (.bool t)) (AGoZ P n Q (.code a :: k) ρ H) (AGoZ P n Q (.code b :: k) ρ H) := by
  simp only [Bool.and_eq_true] at hl
  cases t
  · rw [ABr_false]; exact AGo.cut (hb rfl) (by simp [noRetI, hl.2]) hk
  · rw [ABr_true]; exact AGo.cut (ha rfl) (by simp [noRetI, hl.1]) hk

/-- A loop that only its own block is left by. -/
theorem AGo.cutLoop {c : Code} {id : Nat} (J : (Nat → AV) → Heap → Prop) (hl : noRetC c = true) (h : AGo P n (Post.of J none) [.lp c, .blk id] ρ H) (hk : ∀ ρ' H', J ρ' H' → AGo P n Q k ρ' H') : AGo P n Q (.lp c :: .blk id :: k) ρ H :=
  AGo.cut h (by simp [noRetI, hl]) hk

/-- A test behind which the ways meet again: what follows is said once. -/
theorem ABr.join {t : Bool} {a b : Code} (J : (Nat → AV) → Heap → Prop) (h : ∀ k' : List AItem, (∀ ρ' H', J ρ' H' → AGo P n Q k' ρ' H') → ABr (.sc (.bool t)) (AGoZ P n Q (.code a :: k') ρ H) (AGoZ P n Q (.code b :: k') ρ H))
    (hk : ∀ ρ' H', J ρ' H' → AGo P n Q k ρ' H') : ABr (.sc (.bool t)) (AGoZ P n Q (.code a :: k) ρ H) (AGoZ P n Q (.code b :: k) ρ H) := h k hk
theorem AGo.joinLoop {c : Code} {id : Nat} (J : (Nat → AV) → Heap → Prop) (h : ∀ k' : List AItem, (∀ ρ' H', J ρ' H' → AGo P n Q k' ρ' H') → AGo P n Q (.lp c :: .blk id :: k') ρ H)
    (hk : ∀ ρ' H', J ρ' H' → AGo P n Q k ρ' H') : AGo P n Q (.lp c :: .blk id :: k) ρ H := h k hk

theorem AES.ok {H0 Hw : Heap} {full : Array Oper} {dst : Option Tmp} {l rest : List Oper} {f : FuncId} {args args' : List AV} {v : AV} {K : Heap} (h : AOk P f args' Hw v K) (hw : wkL args args') (hl : HWk Hw H) (hc : HC H0 K)
    (c : ABK P n H0 Q full l rest k (aput n dst v ρ) K) : AES P n H0 Q full dst l rest k ρ H (.call f args) :=
  ⟨_, ACalls.argsW h hw hl, fun v' K' ⟨e1, e2⟩ => by subst e1; subst e2; exact ⟨hc, c⟩⟩

/-- A call that is told of an object less than one knows, and changes it. -/
theorem AOk.over {f : FuncId} {args : List AV} {v : AV} {b : Nat} {cs ds : List AV} {T : TypeId} {o : AObj} (hb : H b = some (.cells cs T)) (hw : wkL cs ds) (h : AOk P f args (H.set b (.cells ds T)) v ((H.set b (.cells ds T)).set b o)) : AOk P f args H v (H.set b o) := by
  have h2 := ACalls.argsW h (wkL_refl args) (HWk.at_ hb hw (HWk.refl H))
  rw [Heap.set_set] at h2
  exact h2

end Rg
