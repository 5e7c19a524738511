import Derived.Test.YtjcakemgghfflaaXSndM
set_option linter.unusedVariables false
set_option linter.unusedSimpArgs false
namespace Go.Abs
open Go.RowKit
section
variable {P : Program} {σ σ' : Env} {B : Nat → Prop} {w0 w w' : World} {M M' : Mem} {fr : Fr} {act : Act} {o : Oper} {next : Act → World → Prop} {Q : Exit → Act → World → Prop}
variable {fc : Bool} {call : CallF} {meth : MethF} {v : AVal}
mutual
theorem same_refl : ∀ a : AVal, a.same a = true
  | .bool _ | .int _ _ | .str _ | .ptr _ | .sl _ _ _ | .map _ => by simp [AVal.same]
  | .fn f a b => by simp [AVal.same, sameL_refl a, sameL_refl b]
  | .ifc t v => by simp [AVal.same, same_refl v]
  | .agg l => by simp [AVal.same, sameL_refl l]
  | .tup l => by simp [AVal.same, sameL_refl l]
theorem sameL_refl : ∀ l : List AVal, sameL l l = true
  | [] => by simp [sameL]
  | a :: l => by simp [sameL, same_refl a, sameL_refl l]
end
theorem isAgg_t {t : TypeId} {f : Bool → Bool} (h : (match isAggB P t with | some b => f b | none => false) = true) : ∃ b, isAggB P t = some b ∧ f b = true := by
  split at h
  · rename_i b hb; exact ⟨b, hb, h⟩
  · cases h
set_option maxHeartbeats 4000000 in
theorem op_sound (hcall : CallOk P call) (hmeth : MethOk P meth) (hr : Rep σ B w0 M w) (hf : FrR σ M.n fr act.tmps) {a : AOp} (hk : okOp P o.op a = true)
    (he : evalOp fc call meth a fr M K0 = some (v, M')) (hd : Done σ B w0 M next act o.dst v M') : o.wp P act w next Q := by
  generalize ho : o.op = op at hk
  unfold okOp at hk
  split at hk
  · exact s_mov hr hf (.inl ho) hk he hd
  · exact s_mov hr hf (.inr ho) hk he hd
  · simp only [Bool.and_eq_true] at hk
    exact s_pick hr hf ho ⟨hk.1.1, hk.1.2, hk.2⟩ he hd
  · exact s_box hr hf ho hk he hd
  · exact s_alloc hr hf ho hk he hd
  ·
    simp only [Bool.and_eq_true] at hk
    obtain ⟨h1, h2⟩ := hk
    refine s_build hr hf ho ⟨h1, ?_⟩ he hd
    split at h2
    · rename_i fs hu
      simp only [Bool.and_eq_true] at h2
      exact .inl ⟨fs, hu, h2.1, h2.2⟩
    · rename_i n e hu
      split at h2
      · rename_i s hs; exact .inr ⟨n, e, s, hu, hs, h2⟩
      · cases h2
    · cases h2
  ·
    simp only [Bool.and_eq_true] at hk
    obtain ⟨h1, h2⟩ := hk
    have := beq_t h1
    subst this
    refine s_bslice hr hf ho ?_ he hd
    split at h2
    · rename_i e hu
      split at h2
      · rename_i s hs
        simp only [Bool.and_eq_true] at h2
        obtain ⟨⟨h2, h3⟩, h4⟩ := h2
        split at h4
        · rename_i z hz
          split at h4
          · rename_i v hv
            simp only [Bool.and_eq_true] at h4
            refine ⟨e, s, v.cells, hu, hs, Nat.le_of_ble_eq_true h2, h3, ?_, beq_t h4.1.1, nb_t h4.1.2, (sameL_eq _ _ h4.2).symm⟩
            unfold zeroIs
            rw [hz]
            simp only [hv]
            exact sameL_refl _
          · cases h4
        · cases h4
      · cases h2
    · cases h2
  · simp only [Bool.and_eq_true] at hk
    obtain ⟨b, hb, hb'⟩ := isAgg_t (f := fun b => !b) hk.1
    cases b
    · exact s_load1 hr hf ho ⟨hb, hk.2⟩ he hd
    · cases hb'
  · simp only [Bool.and_eq_true] at hk
    obtain ⟨b, hb, hb'⟩ := isAgg_t (f := fun b => b) hk.1.1
    cases b
    · cases hb'
    · exact s_loadA hr hf ho ⟨hb, isSz_t hk.1.2, hk.2⟩ he hd
  · simp only [Bool.and_eq_true] at hk
    exact s_store hr hf ho ⟨isSz_t hk.1.1, hk.1.2, hk.2⟩ he hd
  · exact s_nilCk hr hf ho hk he hd
  ·
    rename_i op' t x y u op'' x' y'
    simp only [Bool.and_eq_true, decide_eq_true_eq] at hk
    obtain ⟨⟨⟨rfl, h1⟩, h2⟩, h3⟩ := hk
    refine s_bin hr hf ho ⟨⟨?_, ?_⟩, h2, h3⟩ he hd
    · rintro rfl; simp at h1
    · rintro rfl; simp at h1
  · rename_i op' t x y u op'' x' y'
    simp only [Bool.and_eq_true, decide_eq_true_eq] at hk
    obtain ⟨⟨⟨rfl, h1⟩, h2⟩, h3⟩ := hk
    refine s_shift hr hf ho ⟨?_, h2, h3⟩ he hd
    cases op' <;> simp at h1 <;> simp
  · rename_i op' t x y u neg x' y'
    simp only [Bool.and_eq_true] at hk
    obtain ⟨⟨h1, h2⟩, h3⟩ := hk
    refine s_streq hr hf ho ⟨?_, h2, h3⟩ he hd
    cases op' <;> cases neg <;> simp at h1 <;> simp
  · rename_i op' t x y u neg e x' y'
    simp only [Bool.and_eq_true, Bool.or_eq_true] at hk
    obtain ⟨⟨⟨h1, h2⟩, h3⟩, h4⟩ := hk
    have hop : (op' = .eql ∧ neg = false) ∨ (op' = .neq ∧ neg = true) := by cases op' <;> cases neg <;> simp at h1 <;> simp
    rcases h4 with h4 | h4
    · exact s_eq1 hr hf ho ⟨hop, h2, h3, h4⟩ he hd
    · split at h4
      · rename_i l l' hl hb
        simp only [Bool.and_eq_true, decide_eq_true_eq] at h4
        obtain ⟨⟨rfl, h5⟩, h6⟩ := h4
        exact s_eqA hr hf ho ⟨hop, h2, h3, hl, hb, by simpa using h5, Option.isSome_iff_exists.1 h6⟩ he hd
      · cases h4
  · exact s_not hr hf ho hk he hd
  · exact s_neg hr hf ho hk he hd
  · exact s_com hr hf ho hk he hd
  · rename_i src dst x k x'
    simp only [Bool.and_eq_true] at hk
    obtain ⟨⟨h1, h2⟩, h3⟩ := hk
    split at h2
    · rename_i k' hu
      have := of_decide_eq_true h2
      subst this
      exact s_convI hr hf ho ⟨Option.isSome_iff_exists.1 h1, hu, h3⟩ he hd
    · cases h2
  · simp only [Bool.and_eq_true] at hk
    obtain ⟨⟨h1, h2⟩, h3⟩ := hk
    have := beq_t h2
    subst this
    split at h1
    · rename_i e hu1
      unfold isU8 at h1
      split at h1
      · rename_i hu3; exact s_mark hr hf ho ⟨hu1, hu3, h3⟩ he hd
      · cases h1
    · cases h1
  · simp only [Bool.and_eq_true] at hk
    obtain ⟨h1, h2⟩ := hk
    split at h1
    · rename_i e hu1 hu2
      unfold isU8 at h1
      split at h1
      · rename_i hu3; exact s_s2b hr hf ho ⟨hu1, hu2, hu3, h2⟩ he hd
      · cases h1
    · cases h1
  · rename_i t x t' x'
    simp only [Bool.and_eq_true] at hk
    obtain ⟨⟨h1, h2⟩, h3⟩ := hk
    have := beq_t h1
    subst this
    refine s_mkIfc hr hf ho ⟨?_, h3⟩ he hd
    cases hu : P.underlying t with
    | none => simp [hu] at h2
    | some d =>
      refine ⟨d, rfl, fun ms h => ?_⟩
      subst h
      simp [hu] at h2
  · rename_i fn a b f a' b'
    simp only [Bool.and_eq_true] at hk
    obtain ⟨⟨h1, h2⟩, h3⟩ := hk
    split at h1
    · have := beq_t h1
      subst this
      exact s_mkFn hr hf ho ⟨h2, h3⟩ he hd
    · cases h1
  · simp only [Bool.and_eq_true] at hk
    obtain ⟨⟨h1, h2⟩, h3⟩ := hk
    split at h1
    · rename_i e hu
      simp only [Bool.and_eq_true] at h1
      exact s_mkSl hr hf ho ⟨⟨e, hu, isSz_t h1.1.1.1.1, nb_t h1.1.1.1.2, isSz_t h1.1.1.2, nb_t h1.1.2, h1.2⟩, h2, h3⟩ he hd
    · cases h1
  · simp only [Bool.and_eq_true] at hk
    obtain ⟨⟨⟨⟨⟨h1, h2⟩, h3⟩, h4⟩, h5⟩, h6⟩ := hk
    split at h1
    · rename_i e hu
      simp only [Bool.and_eq_true] at h1
      exact s_slc hr hf ho ⟨⟨e, hu, isSz_t h1.1, nb_t h1.2⟩, h2, h3, h4, h5, (fun ⟨a, b⟩ => by simp [a, b] at h6)⟩ he hd
    · cases h1
  · simp only [Bool.and_eq_true] at hk
    obtain ⟨⟨⟨⟨⟨h1, h2⟩, h3⟩, h4⟩, h5⟩, h6⟩ := hk
    split at h1
    · rename_i m e hu
      simp only [Bool.and_eq_true] at h1
      have := beq_t h1.1.1
      subst this
      exact s_slcA hr hf ho ⟨⟨e, hu, isSz_t h1.1.2, nb_t h1.2⟩, h2, h3, h4, h5, (fun ⟨a, b⟩ => by simp [a, b] at h6)⟩ he hd
    · cases h1
  · rename_i t x lo hi mx x' lo' hi'
    simp only [Bool.and_eq_true] at hk
    obtain ⟨⟨⟨⟨h1, h2⟩, h3⟩, h4⟩, h5⟩ := hk
    have hmx : mx = none := by cases mx <;> simp_all
    subst hmx
    split at h1
    · rename_i hu; exact s_slcS hr hf ho ⟨hu, h3, h4, h5⟩ he hd
    · cases h1
  · simp only [Bool.and_eq_true] at hk
    obtain ⟨h1, h2⟩ := hk
    split at h1
    · rename_i f hfo
      simp only [Bool.and_eq_true] at h1
      refine s_fldA hr hf ho ⟨⟨f, hfo, beq_t h1.1, ?_⟩, h2⟩ he hd
      have h3 := h1.2
      unfold nonzero at h3
      split at h3
      · rename_i n hn; exact ⟨n, hn, nb_t h3⟩
      · cases h3
    · cases h1
  · simp only [Bool.and_eq_true] at hk
    obtain ⟨h1, h2⟩ := hk
    split at h1
    · rename_i f hfo
      simp only [Bool.and_eq_true] at h1
      obtain ⟨b, hb, hb'⟩ := isAgg_t (f := fun b => !b) h1.2
      cases b
      · exact s_fld1 hr hf ho ⟨⟨f, hfo, beq_t h1.1, hb⟩, h2⟩ he hd
      · cases hb'
    · cases h1
  · simp only [Bool.and_eq_true] at hk
    obtain ⟨h1, h2⟩ := hk
    split at h1
    · rename_i f hfo
      simp only [Bool.and_eq_true] at h1
      obtain ⟨b, hb, hb'⟩ := isAgg_t (f := fun b => b) h1.1.2
      cases b
      · cases hb'
      · exact s_fldG hr hf ho ⟨⟨f, hfo, beq_t h1.1.1, hb, isSz_t h1.2⟩, h2⟩ he hd
    · cases h1
  · simp only [Bool.and_eq_true] at hk
    obtain ⟨⟨h1, h2⟩, h3⟩ := hk
    split at h1
    · rename_i e hu; exact s_ixS hr hf ho ⟨⟨e, hu, isSz_t h1⟩, h2, h3⟩ he hd
    · cases h1
  · simp only [Bool.and_eq_true] at hk
    obtain ⟨⟨h1, h2⟩, h3⟩ := hk
    split at h1
    · rename_i m e hu
      simp only [Bool.and_eq_true] at h1
      have := beq_t h1.1
      subst this
      exact s_ixA hr hf ho ⟨⟨e, hu, isSz_t h1.2⟩, h2, h3⟩ he hd
    · cases h1
  · simp only [Bool.and_eq_true] at hk
    obtain ⟨⟨h1, h2⟩, h3⟩ := hk
    split at h1
    · rename_i hu; exact s_ixStr hr hf ho ⟨hu, h2, h3⟩ he hd
    · cases h1
  · simp only [Bool.and_eq_true] at hk
    obtain ⟨⟨h1, h2⟩, h3⟩ := hk
    split at h1
    · rename_i m e hu
      simp only [Bool.and_eq_true] at h1
      have := beq_t h1.1.1
      subst this
      obtain ⟨b, hb, hb'⟩ := isAgg_t (f := fun b => !b) h1.2
      cases b
      · exact s_ixV hr hf ho ⟨⟨e, hu, isSz_t h1.1.2, hb⟩, h2, h3⟩ he hd
      · cases hb'
    · cases h1
  · exact s_mkMap hr hf ho he hd
  · simp only [Bool.and_eq_true] at hk
    exact s_mapUpd hr hf (.inl ho) ⟨hk.1.1.1, hk.1.1.2, hk.1.2, hk.2⟩ he hd
  · simp only [Bool.and_eq_true] at hk
    exact s_mapUpd hr hf (.inr ho) ⟨hk.1.1.1, hk.1.1.2, hk.1.2, hk.2⟩ he hd
  · simp only [Bool.and_eq_true, beq_iff_eq] at hk
    exact s_look hr hf ho ⟨hk.1.1.1.1, hk.1.1.1.2, hk.1.1.2, hk.1.2, hk.2⟩ he hd
  · simp only [Bool.and_eq_true] at hk
    have := beq_t hk.1
    subst this
    exact s_ext hr hf ho hk.2 he hd
  ·
    rename_i c a'
    split at hk
    · rename_i b hb
      exact okBuiltin_sound hcall hr hf ho hb hk he hd
    · rename_i f hfc
      split at hk
      · simp only [Bool.and_eq_true] at hk
        have := beq_t hk.1.1
        subst this
        exact s_call hcall hr hf ho ⟨hfc, hk.2⟩ he hd
      · simp only [Bool.and_eq_true] at hk
        have := beq_t hk.1.1
        subst this
        exact s_callP hcall hr hf ho ⟨hfc, hk.2⟩ he hd
      · simp only [Bool.and_eq_true] at hk
        have := beq_t hk.1.1
        subst this
        exact s_callR hcall hr hf ho ⟨hfc, hk.2⟩ he hd
      · cases hk
    · rename_i x _ hxc
      split at hk
      · simp only [Bool.and_eq_true] at hk
        exact s_callV hcall hr hf ho ⟨hxc, hk.1, hk.2⟩ he hd
      · cases hk
    · rename_i x name hxc
      split at hk
      · simp only [Bool.and_eq_true, beq_iff_eq] at hk
        obtain ⟨⟨h1, rfl⟩, h3⟩ := hk
        exact s_callM hcall hmeth hr hf ho ⟨hxc, h1, h3⟩ he hd
      · cases hk
  · cases hk
end
end Go.Abs
