import Derived.Test.YtjcakemgghfflaaXSnd1
import Derived.Laws.StructEq
set_option linter.unusedVariables false
set_option linter.unusedSimpArgs false
namespace Go.Abs
open Go.RowKit
section
variable {β : Type}
theorem eqAgg_append (xs ys : List AVal) : ∀ (l r : List (Nat × CTy)) (K : Bool → Option β), eqAgg xs ys (l ++ r) K = eqAgg xs ys l fun b => eqAgg xs ys r fun c => K (b && c)
  | [], r, K => by simp [eqAgg]
  | (i, t) :: l, r, K => by
    simp only [List.cons_append, eqAgg]
    congr 1; funext x
    congr 1; funext y
    congr 1; funext b
    rw [eqAgg_append xs ys l r]
    congr 1; funext b'
    congr 1; funext c
    rw [Bool.and_assoc]
end
def IsAt (P : Program) (σ : Env) (xs : List AVal) (off : Nat) (t : TypeId) (c : Value) : Prop :=
  (isAggB P t = some true ∧ ∃ cs n, c = .agg cs ∧ sizeB P t = some n ∧ ∀ j, j < n → cs[j]? = (xs[off + j]?).map (conc σ)) ∨ (isAggB P t = some false ∧ (xs[off]?).map (conc σ) = some c)
section
variable {P : Program} {σ : Env} {w : World}
theorem part_isAt {xs : List AVal} {off : Nat} {cs : Array Value} {n o m : Nat} {t : TypeId} (hc : ∀ j, j < n → cs[j]? = (xs[off + j]?).map (conc σ)) (hm : sizeB P t = some m) (hn : o + m ≤ n)
    (hpos : 0 < m) (hex : (xs[off + o]?).isSome = true ∨ isAggB P t = some true) (ha : (isAggB P t).isSome = true) : ∃ c, (part t cs o).run P w = .ok c w ∧ IsAt P σ xs (off + o) t c := by
  cases hb : isAggB P t with
  | none => simp [hb] at ha
  | some b =>
    cases b with
    | true =>
      refine ⟨.agg (cs.extract o (o + m)), by simp [part, isAggB_run hb, sizeB_run hm], .inl ⟨hb, _, m, rfl, hm, fun j hj => ?_⟩⟩
      have := hc (o + j) (by omega)
      rw [Array.getElem?_extract]
      by_cases h : j < min (o + m) cs.size - o
      · rw [if_pos h, this, Nat.add_assoc]
      · rw [if_neg h]
        have hge : cs.size ≤ o + j := by omega
        rw [Array.getElem?_eq_none hge] at this
        rw [Nat.add_assoc, ← this]
    | false =>
      rcases hex with hex | hex
      · obtain ⟨v, hv⟩ := Option.isSome_iff_exists.1 hex
        have := hc o (by omega)
        rw [hv] at this
        exact ⟨conc σ v, by simp [part, isAggB_run hb, this], .inr ⟨hb, by simp [hv]⟩⟩
      · rw [hb] at hex; simp at hex
theorem eq1_some {β : Type} {t : CTy} {x y : AVal} {K : Bool → Option β} {r : β} (h : eq1 t x y K = some r) :
    (∃ k a b, t = .int k ∧ x = .int k a ∧ y = .int k b ∧ K (a == b) = some r) ∨ (∃ a b, t = .bool ∧ x = .bool a ∧ y = .bool b ∧ K (a == b) = some r) ∨
      (∃ a b, t = .str ∧ x = .str a ∧ y = .str b ∧ K (a.toList == b.toList) = some r) := by
  cases t <;> simp only [eq1, bind_some'] at h <;> try (cases h; done)
  · obtain ⟨a, ha, b, hb, h⟩ := h
    exact .inl ⟨_, a, b, rfl, int?_some ha, int?_some hb, h⟩
  · obtain ⟨a, ha, b, hb, h⟩ := h
    exact .inr (.inl ⟨a, b, rfl, bool?_some ha, bool?_some hb, h⟩)
  · obtain ⟨a, ha, b, hb, h⟩ := h
    exact .inr (.inr ⟨a, b, rfl, str?_some ha, str?_some hb, h⟩)
theorem prim_run {xs ys : List AVal} {t : TypeId} {c : CTy} {off : Nat} (hagg : isAggB P t = some false) {cx cy : Value} (hx : IsAt P σ xs off t cx) (hy : IsAt P σ ys off t cy)
    (hu : (∃ k, P.underlying t = some (.int k) ∧ c = .int k) ∨ (P.underlying t = some .bool ∧ c = .bool) ∨ (P.underlying t = some .string ∧ c = .str))
    {β : Type} {K : Bool → Option β} {r : β} (h : eqAgg xs ys [(off, c)] K = some r) : ∃ b, K b = some r ∧ ∀ D, (Op.equalIn (D + 1) t cx cy).run P w = .ok b w := by
  simp only [eqAgg, bind_some'] at h
  obtain ⟨x, hx', y, hy', h⟩ := h
  rcases hx with ⟨hb, _⟩ | ⟨_, hx⟩
  · rw [hagg] at hb; simp at hb
  rcases hy with ⟨hb, _⟩ | ⟨_, hy⟩
  · rw [hagg] at hb; simp at hb
  simp only [hx', hy', Option.map_some, Option.some.injEq] at hx hy
  subst hx; subst hy
  replace h := eq1_some h
  rcases h with ⟨k, a, b, rfl, rfl, rfl, h⟩ | ⟨a, b, rfl, rfl, rfl, h⟩ | ⟨a, b, rfl, rfl, rfl, h⟩
  · refine ⟨_, (Bool.and_true _ ▸ h), fun D => ?_⟩
    rcases hu with ⟨k', hu, _⟩ | ⟨hu, hc⟩ | ⟨hu, hc⟩
    · simp [conc, run_equalIn_int w D t k k' a b hu]
    · cases hc
    · cases hc
  · refine ⟨_, (Bool.and_true _ ▸ h), fun D => ?_⟩
    rcases hu with ⟨k', hu, hc⟩ | ⟨hu, _⟩ | ⟨hu, hc⟩
    · cases hc
    · simp [conc, run_equalIn_bool' w D t a b hu]
    · cases hc
  · refine ⟨_, (Bool.and_true _ ▸ h), fun D => ?_⟩
    rcases hu with ⟨k', hu, hc⟩ | ⟨hu, hc⟩ | ⟨hu, _⟩
    · cases hc
    · cases hc
    · simp [conc, run_equalIn_string w D t a b hu]
def isAggD : TypeDesc → Bool
  | .struct _ | .array _ _ => true
  | _ => false
theorem isAggB_of {t : TypeId} {d : TypeDesc} (h : P.underlying t = some d) : isAggB P t = some (isAggD d) := by
  unfold isAggB; rw [h]; cases d <;> rfl
theorem eqCells_run : ∀ (d : Nat) (t : TypeId) (off : Nat) (l : List (Nat × CTy)), eqCells P d t off = some l → ∀ (xs ys : List AVal) (cx cy : Value), IsAt P σ xs off t cx → IsAt P σ ys off t cy →
    ∀ {β : Type} (K : Bool → Option β) (r : β), eqAgg xs ys l K = some r → ∃ b, K b = some r ∧ ∀ D, d ≤ D → (Op.equalIn D t cx cy).run P w = .ok b w := by
  intro d
  induction d with
  | zero => intro t off l h; simp [eqCells] at h
  | succ d ih =>
    intro t off l h xs ys cx cy hx hy β K r hk
    have lift : ∀ {b : Bool}, (∀ D, (Op.equalIn (D + 1) t cx cy).run P w = .ok b w) → ∀ D, d + 1 ≤ D → (Op.equalIn D t cx cy).run P w = .ok b w := by
      intro b hb D hD
      obtain ⟨D, rfl⟩ : ∃ e, D = e + 1 := ⟨D - 1, by omega⟩
      exact hb D
    unfold eqCells at h
    cases hu : P.underlying t with
    | none => simp [hu] at h
    | some dsc =>
      cases dsc <;> simp only [hu, Option.some.injEq] at h <;> try (cases h; done)
      · subst h
        obtain ⟨b, hb, hr⟩ := prim_run (w := w) (isAggB_of hu) hx hy (.inr (.inl ⟨hu, rfl⟩)) hk
        exact ⟨b, hb, lift hr⟩
      · subst h
        obtain ⟨b, hb, hr⟩ := prim_run (w := w) (isAggB_of hu) hx hy (.inl ⟨_, hu, rfl⟩) hk
        exact ⟨b, hb, lift hr⟩
      · subst h
        obtain ⟨b, hb, hr⟩ := prim_run (w := w) (isAggB_of hu) hx hy (.inr (.inr ⟨hu, rfl⟩)) hk
        exact ⟨b, hb, lift hr⟩
      · rename_i fs
        split at h
        · cases h
        · rename_i hst
          cases hsz : sizeB P t with
          | none => simp [hsz] at h
          | some n =>
            simp only [hsz] at h
            have hagg := isAggB_of hu
            simp only [isAggD] at hagg
            rcases hx with ⟨_, csx, nx, rfl, hnx, hcx⟩ | ⟨hb, _⟩
            rotate_left
            · rw [hagg] at hb; simp at hb
            rcases hy with ⟨_, csy, ny, rfl, hny, hcy⟩ | ⟨hb, _⟩
            rotate_left
            · rw [hagg] at hb; simp at hb
            rw [hsz] at hnx hny
            obtain rfl := Option.some.inj hnx
            obtain rfl := Option.some.inj hny
            have hff : P.fieldsOf t = fs := by simp [Program.fieldsOf, hu]
            have key : ∀ (fl : List Field) (l : List (Nat × CTy)), eqFieldsW P (eqCells P d) off n fl = some l → ∀ (K : Bool → Option β), eqAgg xs ys l K = some r →
                ∃ b, K b = some r ∧ ∀ D, d ≤ D → (Op.eqFields D csx csy fl).run P w = .ok b w := by
              intro fl
              induction fl with
              | nil =>
                intro l hl K hk
                simp only [eqFieldsW, Option.some.injEq] at hl
                subst hl
                exact ⟨true, hk, fun D _ => by simp [Op.eqFields]⟩
              | cons f fl ihf =>
                intro l hl K hk
                unfold eqFieldsW at hl
                split at hl
                · cases hl
                · rename_i hnm
                  cases hm : sizeB P f.type with
                  | none => simp [hm] at hl
                  | some m =>
                    cases hg : isAggB P f.type with
                    | none => simp [hm, hg] at hl
                    | some g =>
                      simp only [hm, hg] at hl
                      split at hl
                      rotate_left
                      · cases hl
                      rename_i hle
                      simp only [bind_some'] at hl
                      obtain ⟨l1, h1, l2, h2, hl⟩ := hl
                      obtain rfl := Option.some.inj hl
                      rw [eqAgg_append] at hk
                      have hex : ((xs[off + f.offset]?).isSome = true ∧ (ys[off + f.offset]?).isSome = true) ∨ isAggB P f.type = some true := by
                        cases g with
                        | true => exact .inr hg
                        | false =>
                          left
                          cases d with
                          | zero => simp [eqCells] at h1
                          | succ d =>
                            unfold eqCells at h1
                            cases hu' : P.underlying f.type with
                            | none => simp [hu'] at h1
                            | some ds =>
                              rw [isAggB_of hu'] at hg
                              cases ds <;> simp [hu', isAggD] at h1 hg <;> subst h1 <;> simp only [eqAgg, bind_some'] at hk <;> obtain ⟨x, hx, y, hy, _⟩ := hk <;> simp [hx, hy]
                      obtain ⟨cx, px, ax⟩ := part_isAt (P := P) (w := w) hcx hm hle.1 hle.2 (hex.imp (·.1) id) (by simp [hg])
                      obtain ⟨cy, py, ay⟩ := part_isAt (P := P) (w := w) hcy hm hle.1 hle.2 (hex.imp (·.2) id) (by simp [hg])
                      obtain ⟨b, hb, hrun⟩ := ih f.type _ l1 h1 xs ys cx cy ax ay _ _ hk
                      obtain ⟨c, hc, hrun'⟩ := ihf l2 h2 _ hb
                      refine ⟨b && c, hc, fun D hD => ?_⟩
                      have hn' : f.name ≠ "_" := hnm
                      simp only [Op.eqFields, if_pos hn', Sem.run_bind, px, py, hrun D hD, Result.andThen_ok]
                      cases b
                      · simp
                      · simpa using hrun' D hD
            obtain ⟨b, hb, hrun⟩ := key fs.toList l h K hk
            refine ⟨b, hb, fun D hD => ?_⟩
            obtain ⟨D, rfl⟩ : ∃ e, D = e + 1 := ⟨D - 1, by omega⟩
            rw [run_equalIn_struct w D t csx csy (by rw [hff]; exact hu) (by simpa using hst), hff]
            exact hrun D (by omega)
variable {B : Nat → Prop} {w0 : World} {M M' : Mem} {fr : Fr} {act : Act} {o : Oper} {next : Act → World → Prop} {Q : Exit → Act → World → Prop}
variable {fc : Bool} {call : CallF} {meth : MethF} {v : AVal}
theorem Rep.fix {p : Nat × Nat} {x : AObj} {u : Unit} (h : Rep σ B w0 M w) (hx : M.get p.1 = some x) (hf : x.fix = some u) :
    x.kind = .fixed ∧ x.mine = some x.cells ∧ w.frozen? (cAddr σ p) = false ∧ ∃ n, w.shape? (cAddr σ p).block = some n ∧ w.frozen? ⟨(cAddr σ p).block, n.2, none⟩ = false := by
  have hk : x.kind = .fixed := by
    unfold AObj.fix at hf
    split at hf
    · assumption
    · cases hf
  have hobj := h.obj p.1 x hx
  unfold RepObj at hobj
  rw [hk] at hobj
  obtain ⟨_, _, _, e, hh⟩ := hobj
  refine ⟨hk, by simp [AObj.mine, hk], ?_, ?_⟩
  · simp [World.frozen?, cAddr, hh]
  · refine ⟨(e, (concL σ x.cells).length), by simp [World.shape?, cAddr, hh], ?_⟩
    simp [World.frozen?, cAddr, hh]
theorem s_eq_gen (hr : Rep σ B w0 M w) {op : BinOp} {neg : Bool} {t u : TypeId} {x y : Operand} (ho : o.op = .binOp op t x y u) (hop : (op = .eql ∧ neg = false) ∨ (op = .neq ∧ neg = true)) {a b : AVal}
    (e1 : act.eval x = conc σ a) (e2 : act.eval y = conc σ b) (hg : ∀ op, (eqGuard op t x y (conc σ a) (conc σ b)).run P w = .ok () w) {c : Bool}
    (hb : ∀ op, op = .eql ∨ op = .neq → (binOp op t (conc σ a) (conc σ b)).run P w = .ok (.bool (cond (decide (op = .neq)) (!c) c)) w)
    (he : some ((AVal.bool (cond neg (!c) c)), M) = some (v, M')) (hd : Done σ B w0 M next act o.dst v M') : o.wp P act w next Q := by
  obtain ⟨rfl, rfl⟩ := Prod.mk.inj (Option.some.inj he)
  refine wp_pure hr ?_ (by simp [ok]) hd
  rcases hop with ⟨rfl, rfl⟩ | ⟨rfl, rfl⟩
  · simp [execOp, ho, e1, e2, hg, hb, conc]
  · simp [execOp, ho, e1, e2, hg, hb, conc]
theorem binOp_equal {t : TypeId} {a b : Value} {c : Bool} (h : (Op.equal t a b).run P w = .ok c w)
    (hne : (∀ k n, a ≠ .int k n) ∧ (∀ k n, a ≠ .float k n) ∧ (∀ k n m, a ≠ .complex k n m) ∧ (∀ s, a ≠ .string s)) :
    ∀ op, op = .eql ∨ op = .neq → (binOp op t a b).run P w = .ok (.bool (cond (decide (op = .neq)) (!c) c)) w := by
  intro op hop
  rcases hop with rfl | rfl <;> cases a <;> first
    | (exact absurd rfl (hne.1 _ _))
    | (exact absurd rfl (hne.2.1 _ _))
    | (exact absurd rfl (hne.2.2.1 _ _ _))
    | (exact absurd rfl (hne.2.2.2 _))
    | (simp [binOp, h])
theorem eqGuard_plain {op : BinOp} {t : TypeId} {x y : Operand} {a b : Value} (h1 : a ≠ .nilIface) (h2 : ∀ cs, a ≠ .agg cs) : (eqGuard op t x y a b).run P w = .ok () w := by
  unfold eqGuard
  cases a <;> first | (exact absurd rfl h1) | (exact absurd rfl (h2 _)) | (cases op <;> rfl)
set_option maxHeartbeats 1000000 in
theorem s_eq1 (hr : Rep σ B w0 M w) (hf : FrR σ M.n fr act.tmps) {op : BinOp} {neg : Bool} {t u : TypeId} {x y : Operand} {x' y' : AOpd} {e : ETy} (ho : o.op = .binOp op t x y u)
    (hk : ((op = .eql ∧ neg = false) ∨ (op = .neq ∧ neg = true)) ∧ okOpd x x' = true ∧ okOpd y y' = true ∧ okETy P t x y e = true)
    (he : evalOp fc call meth (.eq neg e x' y') fr M K0 = some (v, M')) (hd : Done σ B w0 M next act o.dst v M') : o.wp P act w next Q := by
  simp only [evalOp, ev_eq, bind_some', K0, fB_eq] at he
  obtain ⟨a, ha, b, hb, he⟩ := he
  obtain ⟨hop, hk1, hk2, hty⟩ := hk
  obtain ⟨e1, o1⟩ := opd_ok hf hk1 ha
  obtain ⟨e2, o2⟩ := opd_ok hf hk2 hb
  unfold okETy at hty
  cases hu : P.underlying t with
  | none => simp [hu] at hty
  | some d =>
    cases e with
    | bool =>
      cases d <;> simp [hu] at hty
      simp only [eqv, eq1, bind_some'] at he
      obtain ⟨p, hp, q, hq, he⟩ := he
      obtain rfl := bool?_some hp
      obtain rfl := bool?_some hq
      refine s_eq_gen hr ho hop e1 e2 (fun op => eqGuard_plain (by simp [conc]) (by simp [conc])) (c := p == q) ?_ he hd
      refine binOp_equal ?_ (by simp [conc])
      simp [conc, Op.equal, Op.maxDepth, run_equalIn_bool' w 9999 t p q hu]
    | ptr =>
      cases d <;> simp [hu] at hty
      rename_i el
      simp only [eqv, bind_some'] at he
      obtain ⟨p, hp, q, hq, c, hc, he⟩ := he
      obtain rfl := ptr?_some hp
      obtain rfl := ptr?_some hq
      refine s_eq_gen hr ho hop e1 e2 (fun op => eqGuard_plain (by simp [conc]) (by simp [conc])) (c := c) ?_ he hd
      refine binOp_equal ?_ (by simp [conc])
      obtain ⟨D, hexp⟩ : ∃ D, ∀ X Y : Value, (Op.equal t X Y) = Op.equalIn (D + 1) t X Y := ⟨9999, fun _ _ => rfl⟩
      rw [hexp]
      cases hs : sizeB P el with
      | none => simp [hs] at hty
      | some n =>
        simp [hs] at hty
        have hn : n ≠ 0 := by intro h; subst h; simp at hty
        cases q with
        | none =>
          simp only [ptrEq, Option.some.injEq] at hc
          subst hc
          cases p <;> simp [conc, Op.equalIn, run_underlying hu]
        | some q =>
          cases p with
          | none =>
            simp only [ptrEq, Option.some.injEq] at hc
            subst hc
            simp [conc, Op.equalIn, run_underlying hu]
          | some p =>
            simp only [ptrEq] at hc
            have hrun : (Op.equalIn (D + 1) t (conc σ (.ptr (some p))) (conc σ (.ptr (some q)))).run P w = (sameAddr (cAddr σ p) (cAddr σ q)).run P w := by
              simp [conc, Op.equalIn, run_underlying hu, sizeB_run hs, hn]
            rw [hrun]
            by_cases hpq : p.1 = q.1
            · rw [hpq, Nat.beq_refl, cond_true, Option.some.injEq] at hc
              have hblk : (cAddr σ p).block = (cAddr σ q).block := by simp [cAddr, hpq]
              have : (cAddr σ p == cAddr σ q) = Nat.beq p.2 q.2 := by
                have hiff : (cAddr σ p = cAddr σ q) ↔ p.2 = q.2 := by
                  simp [cAddr, hpq]
                by_cases h2 : p.2 = q.2
                · rw [beq_iff_eq.2 (hiff.2 h2), h2, Nat.beq_refl]
                · have hb1 : Nat.beq p.2 q.2 = false := by
                    cases hbb : Nat.beq p.2 q.2
                    · rfl
                    · exact absurd (Nat.eq_of_beq_eq_true hbb) h2
                  rw [hb1]
                  exact beq_eq_false_iff_ne.2 (fun h => h2 (hiff.1 h))
              simp [sameAddr, hblk, this, hc]
            · have hb1 : Nat.beq p.1 q.1 = false := by
                cases hbb : Nat.beq p.1 q.1
                · rfl
                · exact absurd (Nat.eq_of_beq_eq_true hbb) hpq
              rw [hb1, cond_false] at hc
              simp only [bind_some'] at hc
              obtain ⟨_, ⟨xp, hxp, hfp⟩, _, ⟨xq, hxq, hfq⟩, hc⟩ := hc
              obtain rfl := Option.some.inj hc
              obtain ⟨kp, mp, fp, np, sp, gp⟩ := hr.fix hxp hfp
              obtain ⟨kq, mq, fq, nq, sq, gq⟩ := hr.fix hxq hfq
              have hblk : (cAddr σ p).block ≠ (cAddr σ q).block := fun h => hpq (hr.inj _ _ _ _ _ _ hxp hxq mp mq h)
              have hbb : ((cAddr σ p).block == (cAddr σ q).block) = false := beq_eq_false_iff_ne.2 hblk
              simp [sameAddr, hbb, fp, fq, noView, viewAt, sp, sq, mayBeOne, stringish, gp, gq]
    | sl =>
      cases d <;> simp [hu] at hty
      simp only [eqv, bind_some'] at he
      obtain ⟨p, hp, q, hq, he⟩ := he
      obtain rfl := sl?_some hp
      obtain rfl := sl?_some hq
      obtain ⟨D, hexp⟩ : ∃ D, ∀ X Y : Value, (Op.equal t X Y) = Op.equalIn (D + 1) t X Y := ⟨9999, fun _ _ => rfl⟩
      cases hq1 : q.1 with
      | none =>
        simp only [hq1] at he
        refine s_eq_gen hr ho hop e1 e2 (fun op => eqGuard_plain (by simp [conc]) (by simp [conc])) (c := p.1.isNone) ?_ he hd
        refine binOp_equal ?_ (by simp [conc])
        rw [hexp]
        cases hp1 : p.1 with
        | none => simp [conc, hp1, hq1, Op.equalIn, run_underlying hu]
        | some p1 =>
          obtain ⟨z, hz⟩ := slA_some σ p1 p.2.2
          simp [conc, hp1, hq1, hz, Op.equalIn, run_underlying hu]
      | some q1 =>
        cases hp1 : p.1 with
        | none =>
          simp only [hq1, hp1] at he
          refine s_eq_gen hr ho hop e1 e2 (fun op => eqGuard_plain (by simp [conc]) (by simp [conc])) (c := false) ?_ he hd
          refine binOp_equal ?_ (by simp [conc])
          rw [hexp]
          obtain ⟨z, hz⟩ := slA_some σ q1 q.2.2
          simp [conc, hp1, hq1, hz, Op.equalIn, run_underlying hu]
        | some p1 => simp [hq1, hp1] at he
    | fn =>
      cases d <;> simp [hu] at hty
      simp only [eqv, bind_some'] at he
      obtain ⟨p, hp, q, hq, he⟩ := he
      obtain rfl := fn?_some hp
      obtain rfl := fn?_some hq
      obtain ⟨D, hexp⟩ : ∃ D, ∀ X Y : Value, (Op.equal t X Y) = Op.equalIn (D + 1) t X Y := ⟨9999, fun _ _ => rfl⟩
      cases hq1 : q.1 with
      | some q1 => simp [hq1] at he
      | none =>
        simp only [hq1] at he
        have hne : conc σ (.fn p.1 p.2.1 p.2.2) ≠ .nilIface ∧ (∀ cs, conc σ (.fn p.1 p.2.1 p.2.2) ≠ .agg cs) := by cases hp1 : p.1 <;> simp [conc]
        refine s_eq_gen hr ho hop e1 e2 (fun op => eqGuard_plain hne.1 hne.2) (c := p.1.isNone) ?_ he hd
        refine binOp_equal ?_ (by cases hp1 : p.1 <;> simp [conc])
        rw [hexp]
        cases hp1 : p.1 <;> simp [conc, hq1, Op.equalIn, run_underlying hu]
    | ifc =>
      cases d <;> simp [hu] at hty
      simp only [eqv, bind_some'] at he
      obtain ⟨p, hp, q, hq, he⟩ := he
      obtain rfl := ifc?_some hp
      obtain rfl := ifc?_some hq
      obtain ⟨D, hexp⟩ : ∃ D, ∀ X Y : Value, (Op.equal t X Y) = Op.equalIn (D + 1) t X Y := ⟨9999, fun _ _ => rfl⟩
      cases hq1 : q.1 with
      | some q1 => simp [hq1] at he
      | none =>
        simp only [hq1] at he
        have hcy : y = .const .nilIface := by
          unfold isConstNil at hty
          split at hty
          · rfl
          · cases hty
        have hg : ∀ op, (eqGuard op t x y (conc σ (.ifc p.1 p.2)) (conc σ (.ifc q.1 q.2))).run P w = .ok () w := by
          intro op
          cases hp1 : p.1 with
          | none =>
            simp only [conc, hq1]
            subst hcy
            unfold eqGuard
            cases op <;> cases x <;> rfl
          | some tt => exact eqGuard_plain (by simp [conc]) (by simp [conc])
        refine s_eq_gen hr ho hop e1 e2 hg (c := p.1.isNone) ?_ he hd
        refine binOp_equal ?_ (by cases hp1 : p.1 <;> simp [conc])
        rw [hexp]
        cases hp1 : p.1 <;> simp [conc, hq1, Op.equalIn, run_underlying hu]
    | agg l => cases d <;> simp [hu] at hty
theorem s_eqA (hr : Rep σ B w0 M w) (hf : FrR σ M.n fr act.tmps) {op : BinOp} {neg : Bool} {t u : TypeId} {x y : Operand} {x' y' : AOpd} {l : List (Nat × CTy)} (ho : o.op = .binOp op t x y u)
    (hk : ((op = .eql ∧ neg = false) ∨ (op = .neq ∧ neg = true)) ∧ okOpd x x' = true ∧ okOpd y y' = true ∧ eqCells P 8 t 0 = some l ∧ isAggB P t = some true ∧ P.eqGuardType P.depth t = false ∧ (∃ n, sizeB P t = some n))
    (he : evalOp fc call meth (.eq neg (.agg l) x' y') fr M K0 = some (v, M')) (hd : Done σ B w0 M next act o.dst v M') : o.wp P act w next Q := by
  simp only [evalOp, ev_eq, bind_some', K0, fB_eq, eqv] at he
  obtain ⟨a, ha, b, hb, xs, hxs, ys, hys, he⟩ := he
  obtain ⟨hop, hk1, hk2, hl, hg, hgd, n, hn⟩ := hk
  obtain ⟨e1, o1⟩ := opd_ok hf hk1 ha
  obtain ⟨e2, o2⟩ := opd_ok hf hk2 hb
  obtain rfl := agg?_some hxs
  obtain rfl := agg?_some hys
  have atx : ∀ zs : List AVal, IsAt P σ zs 0 t (conc σ (.agg zs)) := fun zs => .inl ⟨hg, (concL σ zs).toArray, n, by simp [conc], hn, fun j _ => by simp [concL_eq]⟩
  obtain ⟨c, hc, hrun⟩ := eqCells_run (P := P) (σ := σ) (w := w) 8 t 0 l hl xs ys _ _ (atx xs) (atx ys) _ _ he
  refine s_eq_gen hr ho hop e1 e2 (fun op => by simp only [conc]; exact run_eqGuard_agg w op t x y _ _ hgd) (c := c) ?_ hc hd
  refine binOp_equal ?_ (by simp [conc])
  exact hrun 10000 (by omega)
theorem overL_nil (l : List AVal) (i : Nat) : overL l i [] = l := by cases l <;> cases i <;> rfl
theorem overL_get : ∀ (l : List AVal) (i : Nat) (vs : List AVal) (j : Nat), i + vs.length ≤ l.length → (overL l i vs)[j]? = if i ≤ j ∧ j < i + vs.length then vs[j - i]? else l[j]?
  | l, i, [], j, _ => by rw [overL_nil, if_neg (by rintro ⟨a, b⟩; simp at b; omega)]
  | [], i, v :: vs, j, h => by simp at h
  | c :: l, 0, v :: vs, j, h => by
    simp only [overL]
    cases j with
    | zero => simp
    | succ j =>
      simp only [List.getElem?_cons_succ]
      rw [overL_get l 0 vs j (by simpa using h)]
      by_cases hj : j < vs.length
      · rw [if_pos (by omega), if_pos (by simp; omega)]; simp
      · rw [if_neg (by omega), if_neg (by simp; omega)]
  | c :: l, i + 1, v :: vs, j, h => by
    simp only [overL]
    cases j with
    | zero => simp
    | succ j =>
      simp only [List.getElem?_cons_succ]
      rw [overL_get l i (v :: vs) j (by simp at h ⊢; omega)]
      by_cases hj : i ≤ j ∧ j < i + (v :: vs).length
      · rw [if_pos hj, if_pos (by omega)]; congr 1; omega
      · rw [if_neg hj, if_neg (by omega)]
theorem overL_length : ∀ (l : List AVal) (i : Nat) (vs : List AVal), i + vs.length ≤ l.length → (overL l i vs).length = l.length
  | l, i, [], _ => by rw [overL_nil]
  | [], i, v :: vs, h => by simp at h
  | c :: l, 0, v :: vs, h => by simp only [overL, List.length_cons]; rw [overL_length l 0 vs (by simpa using h)]
  | c :: l, i + 1, v :: vs, h => by simp only [overL, List.length_cons]; rw [overL_length l i (v :: vs) (by simp at h ⊢; omega)]
theorem overL_mem {l : List AVal} {i : Nat} {vs : List AVal} (h : i + vs.length ≤ l.length) {x : AVal} (hx : x ∈ overL l i vs) : x ∈ l ∨ x ∈ vs := by
  obtain ⟨j, hj⟩ := List.mem_iff_getElem?.1 hx
  rw [overL_get l i vs j h] at hj
  split at hj
  · exact .inr (List.mem_of_getElem? hj)
  · exact .inl (List.mem_of_getElem? hj)
theorem fold_get (off : Nat) : ∀ (vs : List Value) (k : Nat) (cs : Array Value) (j : Nat), off + k + vs.length ≤ cs.size →
    ((vs.zipIdx k).foldl (fun cs (p : Value × Nat) => cs.setIfInBounds (off + p.2) p.1) cs)[j]? = if off + k ≤ j ∧ j < off + k + vs.length then vs[j - (off + k)]? else cs[j]?
  | [], k, cs, j, _ => by simp; omega
  | v :: vs, k, cs, j, h => by
    simp only [List.zipIdx_cons, List.foldl_cons]
    rw [fold_get off vs (k + 1) _ j (by simp at h ⊢; omega)]
    by_cases hj : j = off + k
    · subst hj
      rw [if_neg (by omega), if_pos (by simp)]
      simp at h
      have : off + k < cs.size := by omega
      simp [this]
    · by_cases h2 : off + (k + 1) ≤ j ∧ j < off + (k + 1) + vs.length
      · rw [if_pos h2, if_pos (by simp; omega)]
        have : j - (off + k) = (j - (off + (k + 1))) + 1 := by omega
        rw [this]; simp
      · rw [if_neg h2, if_neg (by simp; omega)]
        rw [Array.getElem?_setIfInBounds_ne (by omega)]
theorem fill_step (σ : Env) (cs vs : List AVal) (off : Nat) (h : off + vs.length ≤ cs.length) :
    ((concL σ vs).zipIdx.foldl (fun cs (p : Value × Nat) => cs.setIfInBounds (off + p.2) p.1) (concL σ cs).toArray) = (concL σ (overL cs off vs)).toArray := by
  apply Array.ext_getElem?
  intro j
  rw [fold_get off _ 0 _ j (by simp; omega)]
  simp only [Nat.add_zero, List.getElem?_toArray, concL_eq, List.getElem?_map, List.length_map]
  rw [overL_get cs off vs j h]
  split <;> rfl
theorem fill_ok (hf : FrR σ M.n fr act.tmps) {place : Nat → Option (Nat × Nat)} : ∀ {ps : List (Nat × Operand)} {as : List (Nat × Nat × AOpd)} {cs : List AVal} {β : Type} {K : List AVal → Option β} {r : β},
    okParts place ps as = true → fillA fr as cs K = some r → okL M.n cs → cs.all AVal.flat = true →
    ∃ cs', K cs' = some r ∧ Instr.fill place (concL σ cs).toArray (ps.map fun (i, x) => (i, act.eval x)) = some (concL σ cs').toArray ∧ okL M.n cs' ∧ cs'.all AVal.flat = true
  | [], [], cs, β, K, r, _, h, h1, h2 => ⟨cs, h, by simp [Instr.fill], h1, h2⟩
  | (i, x) :: ps, (off, m, a) :: as, cs, β, K, r, hp, h, h1, h2 => by
    simp only [okParts, Bool.and_eq_true] at hp
    obtain ⟨⟨hpl, hx⟩, hps⟩ := hp
    simp only [fillA, ev_eq, bind_some', cond_none, Bool.and_eq_true] at h
    obtain ⟨va, hva, ⟨⟨hlen, hle⟩, hflat⟩, h⟩ := h
    obtain ⟨e1, o1⟩ := opd_ok hf hx hva
    have hlen := Nat.eq_of_beq_eq_true hlen
    have hle := Nat.le_of_ble_eq_true hle
    cases hq : place i with
    | none => simp [hq] at hpl
    | some q =>
      simp only [hq, Bool.and_eq_true] at hpl
      have q1 := Nat.eq_of_beq_eq_true hpl.1
      have q2 := Nat.eq_of_beq_eq_true hpl.2
      have hle' : off + va.cells.length ≤ cs.length := by omega
      obtain ⟨cs', hK, hfill, h3, h4⟩ := fill_ok hf hps h
        ((okL_iff _ _).2 fun y hy => (overL_mem hle' hy).elim ((okL_iff _ _).1 h1 y) ((okL_iff _ _).1 (ok_cells o1) y))
        (List.all_eq_true.2 fun y hy => (overL_mem hle' hy).elim (List.all_eq_true.1 h2 y) (List.all_eq_true.1 hflat y))
      refine ⟨cs', hK, ?_, h3, h4⟩
      have hcc := conc_cells σ va
      simp only [List.map_cons, Instr.fill, hq, e1, q1, q2, hcc, List.size_toArray, concL_length, hlen]
      have hnot : ((m ≠ m || decide (off + m > cs.length)) = true) = False := by simp; omega
      simp only [hnot, if_false]
      rw [← hfill]
      congr 1
      have := fill_step σ cs va.cells off hle'
      simpa using this
  | [], _ :: _, _, _, _, _, hp, _, _, _ => by simp [okParts] at hp
  | _ :: _, [], _, _, _, _, hp, _, _, _ => by simp [okParts] at hp
end
end Go.Abs
