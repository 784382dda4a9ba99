/- Each operation on abstract values is what the model does, on. -/
import Derived.Test.YtdpgnbinekcgdaaGreatDoorRgC
namespace Rg
open Go Go.RowKit

variable {P : Program} {W0 : World} {C : Com} {H : Heap} {w : World}

theorem run_underlying_isSome {T : TypeId} (h : (P.underlying T).isSome = true) (w : World) : ∃ d, (underlying T).run P w = .ok d w := by
  obtain ⟨d, hd⟩ := Option.isSome_iff_exists.1 h
  exact ⟨d, run_underlying hd w⟩

theorem tint_spec {T : TypeId} {k : IntKind} (h : tint P T = some k) : P.underlying T = some (.int k) := by
  unfold tint at h; split at h <;> simp_all

theorem rel_bytes (bs : List UInt8) : RelL C ((bs.map fun c => AV.sc (.int .u8 c.toNat)).flatMap AV.cells) (bs.map fun c => Value.int .u8 c.toNat) := by
  induction bs with
  | nil => exact .nil
  | cons b bs ih => simpa [AV.cells] using RelL.sc _ ih

theorem abytes_spec : ∀ {xs : List AV} {bs : List UInt8} {us : List Value}, abytes xs = some bs → RelL C (xs.flatMap AV.cells) us → us = bs.map fun c => Value.int .u8 c.toNat
  | [], bs, us, h, hr => by
    simp [abytes] at h
    subst h
    exact hr.nil_inv
  | x :: xs, bs, us, h, hr => by
    unfold abytes at h
    split at h
    · rename_i h0; cases h0
    · rename_i n r h0
      cases h0
      split at h
      · rename_i hn
        obtain ⟨bs', hb, rfl⟩ := Option.map_eq_some_iff.1 h
        obtain ⟨u, us', rfl, hu, hr'⟩ := RelL.uncons (a := .sc (.int .u8 n)) (as := xs.flatMap AV.cells) hr
        rw [abytes_spec hb hr', hu.sc_inv, List.map_cons]
        have : ((UInt8.ofNat n.toNat).toNat : Int) = n := by
          rw [UInt8.toNat_ofNat', Nat.mod_eq_of_lt (by omega)]
          exact Int.toNat_of_nonneg hn.1
        rw [this]
      · cases h
    · cases h

theorem s_convB {s d : TypeId} {xs : List AV} {t : Tok} {r : AV} {u : Value} (hi : Inv W0 C H w) (hx : Rel C (.sl xs t) u) (h : aconv P s d (.sl xs t) = .val r) : VOk P W0 C H w (convert s d u) r := by
  simp only [aconv] at h
  · split at h
    · rename_i hk
      split at h
      · rename_i e bs he hbs
        split at h
        · rename_i hte
          cases h
          have hu := tkd_string hk
          have hs := telem_spec he
          have hue := tint_spec hte
          have hnil : xs = [] → bs = [] := by rintro rfl; simp [abytes] at hbs; exact hbs
          unfold Rel at hx
          cases hx with
          | nils t ht _ =>
            rw [hnil rfl]
            refine VOk.same hi (v := .string ⟨#[]⟩) ?_ (Rel.sc _)
            simp [convert, run_underlying hs, run_underlying hu, run_underlying hue, Conv.bytesToString]
            rfl
          | emp t a cap ht hm _ =>
            rw [hnil rfl]
            exact VOk.same hi (run_convert_bytes_back (P := P) w s d e a cap [] hs hue hu (fun j hj => by simp at hj)) (Rel.sc _)
          | @sl _ _ _ us t b o cap sz h1 h2 h3 h4 h5 h6 h7 _ =>
            have hus := abytes_spec hbs h1
            have hlen : xs.length = bs.length := by
              have e1 := h1.length
              rw [hus, List.length_map] at e1
              rw [← e1]
              clear h1 h4 h5 h7 hus e1
              have : ∀ (xs : List AV) (bs : List UInt8), abytes xs = some bs → xs.length = (xs.flatMap AV.cells).length := by
                intro xs
                induction xs with
                | nil => intro bs _; rfl
                | cons x xs ih =>
                  intro bs hb
                  unfold abytes at hb
                  split at hb
                  · rename_i h0; cases h0
                  · rename_i n r h0
                    cases h0
                    split at hb
                    · obtain ⟨bs', hb', rfl⟩ := Option.map_eq_some_iff.1 hb
                      simp only [List.flatMap_cons, AV.cells, List.length_cons, List.length_append, List.length_nil]
                      rw [ih bs' hb']
                      omega
                    · cases hb
                  · cases hb
              exact this xs bs hbs
            rw [hlen]
            exact VOk.same hi (run_convert_bytes_back (P := P) w s d e ⟨b, o, none⟩ cap bs hs hue hu (fun j hj => by
              rw [addr_add]
              exact hi.com _ _ _ (h4 j _ (by rw [hus]; simp [hj])))) (Rel.sc _)
        · cases h
      · cases h
    · cases h

theorem s_conv {s d : TypeId} {x r : AV} {u : Value} (hi : Inv W0 C H w) (hx : Rel C x u) (h : aconv P s d x = .val r) : VOk P W0 C H w (convert s d u) r := by
  have h00 := h
  unfold aconv at h
  split at h
  · obtain rfl := hx.sc_inv
    split at h
    · rename_i hs
      obtain ⟨ds, hds⟩ := Option.isSome_iff_exists.1 hs
      split at h
      · rename_i k hk
        cases h
        have hu := tint_spec hk
        refine VOk.same hi (v := .int k (k.wrap _)) ?_ (Rel.sc _)
        simp only [convert, Sem.run_bind, run_underlying hds, run_underlying hu, Result.andThen_ok]
        cases ds <;> simp [Conv.intToInt]
      · cases h
    · cases h
  · rename_i b
    obtain rfl := hx.sc_inv
    split at h
    · rename_i hs
      obtain ⟨ds, hds⟩ := Option.isSome_iff_exists.1 hs
      split at h
      · rename_i hk
        cases h
        have hu := tkd_string hk
        refine VOk.same hi (v := .string _) ?_ (Rel.sc _)
        simp only [convert, Sem.run_bind, run_underlying hds, run_underlying hu, Result.andThen_ok]
        cases ds <;> simp
      · split at h
        · rename_i e he
          split at h
          · rename_i hk
            cases h
            have hu := telem_spec he
            obtain ⟨hk, hks, hbm⟩ := hk
            have hrun := run_bytes_of_string (P := P) w s d e b (tkd_string hks) hu (tint_spec hk)
            have hc1 := grownCap_ge w b.size 0 e
            have hc2 := grownCap_le_maxLen w b.size 0 e hbm
            generalize grownCap w b.size 0 e = cap at *
            have hrow : bytesRow b cap = ((b.data.toList.map fun c : UInt8 => Value.int .u8 c.toNat) ++ List.replicate (cap - b.size) (Value.int .u8 0)).toArray := by
              apply Array.toList_inj.1
              simp [bytesRow]
            rw [hrow] at hrun
            obtain ⟨h1, h2⟩ := hi.draw.allocCom (b.data.toList.map fun c => Value.int .u8 c.toNat) (List.replicate (cap - b.size) (.int .u8 0)) e _
            refine ⟨_, _, _, hrun, ?_, h2, h1⟩
            have hsz : b.size = (b.data.toList.map fun c => AV.sc (.int .u8 c.toNat)).length := by rw [List.length_map]; exact Array.length_toList.symm
            rw [hsz] at hc1 ⊢
            refine RelL.sl .no w.heap.size 0 cap 1 (rel_bytes _) (fun x hx => by obtain ⟨c, _, rfl⟩ := List.mem_map.1 hx; rfl) (fun x hx => by obtain ⟨c, _, rfl⟩ := List.mem_map.1 hx; rfl) ?_ hc1 hc2 trivial .nil
            intro j u hu
            exact commit_at hu
          · cases h
        · cases h
    · cases h
  · exact s_convB hi hx h00
  · cases h

theorem bound_spec {d n : Int} {x : Option AV} {o : Option Value} (hr : ∀ a, x = some a → ∃ u, o = some u ∧ Rel C a u) (hn : x = none → o = none) (h : abound d x = some n) :
    (o = none ∧ x = none ∧ n = d) ∨ ∃ k, o = some (.int k n) ∧ x.isSome := by
  unfold abound at h
  split at h
  · cases h; exact .inl ⟨hn rfl, rfl, rfl⟩
  · cases h
    obtain ⟨u, hu, hru⟩ := hr _ rfl
    obtain rfl := hru.sc_inv
    exact .inr ⟨_, hu, rfl⟩
  · cases h

theorem run_sliceBound {k : IntKind} {n : Int} {y : Nat} {code : BoundsCode} (h : 0 ≤ n ∧ n ≤ y) : (Instr.sliceBound (.int k n) y code).run P w = .ok n.toNat w := by
  simp [Instr.sliceBound, asIntOf, Sem.run_bind, h]

def ORel (C : Com) : Option AV → Option Value → Prop
  | none, none => True
  | some a, some v => Rel C a v
  | _, _ => False

theorem ORel.some_iff {x : Option AV} {o : Option Value} (h : ORel C x o) : (∀ a, x = some a → ∃ u, o = some u ∧ Rel C a u) ∧ (x = none → o = none) := by
  cases x <;> cases o <;> simp_all [ORel]

theorem szs_spec {sz : Nat} {xs : List AV} (h : szs sz xs = true) : ∀ x ∈ xs, x.cells.length = sz := by
  unfold szs at h
  intro x hx
  simpa using List.all_eq_true.1 h x hx

theorem flat_length {sz : Nat} {xs : List AV} (h : ∀ x ∈ xs, x.cells.length = sz) : (xs.flatMap AV.cells).length = xs.length * sz := by
  induction xs with
  | nil => simp
  | cons x xs ih =>
    rw [List.flatMap_cons, List.length_append, ih fun y hy => h y (by simp [hy]), h x (by simp), List.length_cons, Nat.add_mul]
    omega

theorem flat_drop {sz : Nat} {xs : List AV} (h : ∀ x ∈ xs, x.cells.length = sz) (n : Nat) : (xs.drop n).flatMap AV.cells = (xs.flatMap AV.cells).drop (n * sz) := by
  induction n generalizing xs with
  | zero => simp
  | succ n ih =>
    cases xs with
    | nil => simp
    | cons x xs =>
      have hx := h x (by simp)
      rw [List.drop_succ_cons, ih fun y hy => h y (by simp [hy]), List.flatMap_cons, Nat.add_mul, Nat.one_mul, Nat.add_comm (n * sz) sz, ← List.drop_drop, ← hx, List.drop_left]

theorem flat_take {sz : Nat} {xs : List AV} (h : ∀ x ∈ xs, x.cells.length = sz) (n : Nat) : (xs.take n).flatMap AV.cells = (xs.flatMap AV.cells).take (n * sz) := by
  induction n generalizing xs with
  | zero => simp
  | succ n ih =>
    cases xs with
    | nil => simp
    | cons x xs =>
      have hx := h x (by simp)
      rw [List.take_succ_cons, List.flatMap_cons, List.flatMap_cons, ih fun y hy => h y (by simp [hy]), Nat.add_mul, Nat.one_mul, Nat.add_comm (n * sz) sz, ← hx]
      rw [List.take_append, List.take_of_length_le (l := x.cells) (by omega), Nat.add_sub_cancel_left]

theorem flat_get {sz : Nat} {xs : List AV} (h : ∀ x ∈ xs, x.cells.length = sz) {i : Nat} {x : AV} (hx : xs[i]? = some x) : x.cells = ((xs.flatMap AV.cells).drop (i * sz)).take sz := by
  rw [← flat_drop h]
  have hlt := (List.getElem?_eq_some_iff.1 hx).1
  have : xs.drop i = x :: xs.drop (i + 1) := by
    rw [List.drop_eq_getElem_cons hlt]
    congr 1
    exact (List.getElem?_eq_some_iff.1 hx).2
  rw [this, List.flatMap_cons, ← h x (List.mem_of_getElem? hx), List.take_left]

theorem s_slice {T : TypeId} {x r : AV} {u : Value} {lo hi' mx : Option AV} {lo' hi'' mx' : Option Value} (hi : Inv W0 C H w) (hx : Rel C x u) (hlo : ORel C lo lo') (hhi : ORel C hi' hi'') (hmx : ORel C mx mx')
    (h : aslice P T x lo hi' mx = .val r) : VOk P W0 C H w (Instr.sliceAt T u lo' hi'' mx') r := by
  unfold aslice at h
  split at h
  · obtain rfl := hx.sc_inv
    rename_i s
    split at h
    · rename_i hk
      obtain ⟨hk, hm⟩ := hk
      have hu := tkd_string hk
      split at h
      · rename_i l h2 hl hh
        split at h
        · rename_i hb
          cases h
          have hmn : mx' = none := by cases mx <;> cases mx' <;> simp_all [ORel]
          subst hmn
          refine VOk.same hi (v := .string _) ?_ (Rel.sc _)
          simp only [Instr.sliceAt, Instr.slice, Sem.run_bind, run_underlying hu, Result.andThen_ok, Option.isSome_none, Bool.false_eq_true, if_false]
          have hhr := bound_spec hhi.some_iff.1 hhi.some_iff.2 hh
          have hlr := bound_spec hlo.some_iff.1 hlo.some_iff.2 hl
          have hb1 : (0 : Int) ≤ h2 ∧ h2 ≤ s.size := ⟨by omega, by omega⟩
          have e1 : (h2.toNat : Int) = h2 := Int.toNat_of_nonneg hb1.1
          have hb2 : (0 : Int) ≤ l ∧ l ≤ h2.toNat := ⟨by omega, by omega⟩
          rcases hhr with ⟨rfl, _, rfl⟩ | ⟨k, rfl, _⟩ <;> rcases hlr with ⟨rfl, _, rfl⟩ | ⟨k', rfl, _⟩
          · simp [Instr.sliceBounds]
          · simp at hb2
            simp [Instr.sliceBounds, Sem.run_bind, run_sliceBound hb2]
          · simp [Instr.sliceBounds, Sem.run_bind, run_sliceBound hb1]
          · simp [Instr.sliceBounds, Sem.run_bind, run_sliceBound hb1, run_sliceBound hb2]
        · cases h
      · cases h
    · cases h
  · rename_i xs t
    split at h
    · rename_i hk
      split at h
      · rename_i l h2 m hl hh hm
        split at h
        · rename_i sz hsz
          split at h
          · rename_i hb
            obtain ⟨hb0, hb1, hb2, hszs, hmm⟩ := hb
            cases h
            cases hte : telem P T with
            | none => rw [hte] at hsz; cases hsz
            | some e =>
            rw [hte] at hsz
            simp at hsz
            have hu := telem_spec hte
            have hszs := szs_spec hszs
            obtain ⟨a, cap, rfl, hcap, hcm⟩ := hx.sl_form
            have hhr := bound_spec hhi.some_iff.1 hhi.some_iff.2 hh
            have hlr := bound_spec hlo.some_iff.1 hlo.some_iff.2 hl
            have hmr := bound_spec hmx.some_iff.1 hmx.some_iff.2 hm
            have e2 : (h2.toNat : Int) = h2 := Int.toNat_of_nonneg (by omega)
            have e1 : (l.toNat : Int) = l := Int.toNat_of_nonneg hb0
            -- the new capacity's end
            have hrun : ∃ M : Nat, h2.toNat ≤ M ∧ M ≤ cap ∧ (mx.isSome → M = h2.toNat) ∧
                (Instr.sliceAt T (.slice a xs.length cap) lo' hi'' mx').run P w = .ok (.slice (if M = l.toNat then a else a.map (·.add (l.toNat * sz))) (h2.toNat - l.toNat) (M - l.toNat)) w := by
              have hA : (0 : Int) ≤ h2 ∧ h2 ≤ cap := ⟨by omega, by omega⟩
              have hL : (0 : Int) ≤ l ∧ l ≤ h2.toNat := ⟨by omega, by omega⟩
              have hM : (0 : Int) ≤ h2 ∧ h2 ≤ h2.toNat := ⟨by omega, by omega⟩
              rcases hmr with ⟨rfl, hmn, _⟩ | ⟨km, rfl, hms⟩
              · refine ⟨cap, by omega, Nat.le_refl _, by simp [hmn], ?_⟩
                simp only [Instr.sliceAt, Instr.slice, Sem.run_bind, run_underlying hu, Result.andThen_ok]
                rcases hhr with ⟨rfl, _, rfl⟩ | ⟨k, rfl, _⟩ <;> rcases hlr with ⟨rfl, _, rfl⟩ | ⟨k', rfl, _⟩
                · simp [Instr.sliceBounds, Sem.run_bind, run_sizeOf hsz]
                · simp at hL
                  simp [Instr.sliceBounds, Sem.run_bind, run_sizeOf hsz, run_sliceBound hL]
                · simp [Instr.sliceBounds, Sem.run_bind, run_sizeOf hsz, run_sliceBound hA]
                · simp [Instr.sliceBounds, Sem.run_bind, run_sizeOf hsz, run_sliceBound hA, run_sliceBound hL]
              · obtain ⟨rfl, hhs⟩ := hmm hms
                refine ⟨m.toNat, Nat.le_refl _, by omega, fun _ => rfl, ?_⟩
                simp only [Instr.sliceAt, Instr.slice, Sem.run_bind, run_underlying hu, Result.andThen_ok]
                rcases hhr with ⟨_, hx', _⟩ | ⟨k, rfl, _⟩
                · rw [hx'] at hhs; cases hhs
                rcases hlr with ⟨rfl, _, rfl⟩ | ⟨k', rfl, _⟩
                · simp [Instr.sliceBounds, Sem.run_bind, run_sizeOf hsz, run_sliceBound hA, run_sliceBound hM]
                · simp [Instr.sliceBounds, Sem.run_bind, run_sizeOf hsz, run_sliceBound hA, run_sliceBound hM, run_sliceBound hL]
            obtain ⟨M, hM1, hM2, hM3, hrun⟩ := hrun
            refine VOk.same hi hrun ?_
            have hlen : ((xs.take h2.toNat).drop l.toNat).length = h2.toNat - l.toNat := by simp; omega
            by_cases hlM : M = l.toNat
            · rw [if_pos hlM]
              have hnil : (xs.take h2.toNat).drop l.toNat = [] := List.eq_nil_of_length_eq_zero (by omega)
              rw [hnil, show h2.toNat - l.toNat = 0 by omega, show M - l.toNat = 0 by omega]
              cases a with
              | none =>
                -- a nil slice
                refine .nils _ ?_ .nil
                cases mx.isSome <;> rfl
              | some a =>
                refine .emp _ a 0 ?_ (by simp [maxLen]) .nil
                cases hms : mx.isSome <;> simp
            · rw [if_neg hlM]
              generalize hz : Value.slice a xs.length cap = z at hx
              unfold Rel at hx
              cases hx with
              | nils t ht _ => cases hz; simp at hb2; omega
              | emp t a cap ht _ _ =>
                cases hz
                simp at hb2
                rw [show h2.toNat - l.toNat = 0 by omega]
                simp only [List.take_nil, List.drop_nil, Option.map_some]
                cases hms : mx.isSome
                · exact .emp _ _ _ (.inl rfl) (by omega) .nil
                · have := hM3 hms; omega
              | @sl _ _ _ us t b o cap sz' h1 h2' h3 h4 h5 h6 h7 _ =>
                cases hz
                by_cases hxs : xs = []
                · subst hxs
                  simp at hb2
                  rw [show h2.toNat - l.toNat = 0 by omega]
                  simp only [List.take_nil, List.drop_nil, Option.map_some]
                  cases hms : mx.isSome
                  · exact .emp _ _ _ (.inl rfl) (by omega) .nil
                  · have := hM3 hms; omega
                have hsz' : sz' = sz := by
                  obtain ⟨y, ys, rfl⟩ := List.exists_cons_of_ne_nil hxs
                  rw [← h2' y (by simp), hszs y (by simp)]
                subst hsz'
                rw [← hlen, Option.map_some, addr_add]
                have hfl : ((xs.take h2.toNat).drop l.toNat).flatMap AV.cells = ((xs.flatMap AV.cells).take (h2.toNat * sz')).drop (l.toNat * sz') := by
                  rw [flat_drop (fun y hy => hszs y (List.mem_of_mem_take hy)), flat_take hszs]
                refine .sl (us := (us.take (h2.toNat * sz')).drop (l.toNat * sz')) _ b (o + l.toNat * sz') (M - l.toNat) sz' (by rw [hfl]; exact (h1.take _).drop _)
                  (fun y hy => hszs y (List.mem_of_mem_take (List.mem_of_mem_drop hy))) (fun v hv => h3 v (List.mem_of_mem_take (List.mem_of_mem_drop hv))) ?_ (by rw [hlen]; omega) (by omega) ?_ .nil
                · intro j v hv
                  rw [List.getElem?_drop, List.getElem?_take] at hv
                  split at hv
                  · rw [Nat.add_assoc]; exact h4 _ _ hv
                  · cases hv
                · cases hms : mx.isSome
                  · trivial
                  · rw [hM3 hms, hlen]; rfl
          · cases h
        · cases h
      · cases h
    · cases h
  · cases h

end Rg
