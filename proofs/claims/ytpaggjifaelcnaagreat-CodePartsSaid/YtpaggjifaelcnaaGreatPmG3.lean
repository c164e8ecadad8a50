import Derived.Test.YtpaggjifaelcnaaGreatPmG2
set_option linter.unusedVariables false
set_option linter.unusedSimpArgs false
set_option maxRecDepth 20000
namespace Go.Proofs.YtpaggjifaelcnaaGreat
open Go Go.Pm Go.Pt

-- pointsman/pointsmanlaw01.TwinActs
theorem ok34_0 (l : List aAct) (y_ : List aAct) (hp_ : pointsmanlaw01_TwinActs l = some y_) : FC Tryz.prog 34 [⟨vSlice k_aAct, l⟩] [] (fun v_ : Value => .ret kVal.v v_) (fun v_ => [rArr v_ 41 k_aAct y_]) := by
  unfold pointsmanlaw01_TwinActs at hp_
  refine fc_of 30 Tryz.func34 rfl fn34 rfl (Nat.le_of_ble_eq_true rfl) fun I_ w_ F_ => ?_
  refine t_seq ?_
  refine t_reg ?_
  refine st (l_assign (o_nil (K := k_aAct)) (lt rfl)) ?_
  refine r_nil (k_seq ?_)
  refine t_seq ?_
  refine t_reg ?_
  refine st (l_move (o_t rfl) (lt rfl)) ?_
  refine st (l_lens (o_t rfl) sl26 (lt rfl)) ?_
  refine st (l_bin (o_t rfl) (o_i) .add (lt rfl)) ?_
  rcases bt (mkFits 64 (IntKind.wrap .i64 ((l.length : Int) + (1 : Int)))) with hc1 | hc1
  · rw [if_neg (nt hc1)] at hp_; cases hp_
  rw [if_pos hc1] at hp_
  refine r_mk0 el26 (o_i) (o_t rfl) hc1 (lt rfl) (fun o2 => ?_)
  refine st (l_assign (o_t rfl) (lt rfl)) ?_
  refine r_nil (k_seq ?_)
  refine t_seq ?_
  refine t_seq ?_
  refine t_reg ?_
  refine st (l_assign (o_i) (lt rfl)) ?_
  refine r_nil (k_seq ?_)
  obtain ⟨res1_, hl1_0, hx1_⟩ := bs hp_
  clear hp_
  refine t_sub (Γ' := [⟨4, vInt .i64, (0 : Int)⟩, ⟨0, vSlice k_aAct, l⟩, ⟨3, kVal.v, o2⟩]) (Sub.cons rfl (Sub.cons rfl (Sub.cons rfl (Sub.nil _)))) ?_
  refine t_bloop (β := Nat × Int × (List aAct) × Value) (σ := (List aAct) × Value) (fun x_ => [⟨4, vInt .i64, x_.2.1⟩, ⟨0, vSlice k_aAct, l⟩, ⟨3, kVal.v, x_.2.2.2⟩]) (fun x_ => [rArr x_.2.2.2 41 k_aAct x_.2.2.1]) (fun x_ => pointsmanlaw01_TwinActs.l1 x_.1 l x_.2.1 x_.2.2.1 = some res1_) (fun x_ => x_.1) (fun x_ => [⟨0, vSlice k_aAct, l⟩, ⟨3, kVal.v, x_.2⟩]) (fun x_ => [rArr x_.2 41 k_aAct x_.1]) (fun x_ => res1_ = x_.1) ?_ ?_ ((((l.length : Int) - (0 : Int)).toNat + 1), (0 : Int), [], o2) hl1_0
  · rintro ⟨k1_, v4_1, w3_1, g3_1⟩ hl1_
    rcases k1_ with _ | k1_
    · exact absurd (show none = some res1_ from hl1_) (by simp)
    replace hl1_ : pointsmanlaw01_TwinActs.l1 (k1_ + 1) l v4_1 w3_1 = some res1_ := hl1_
    rw [pointsmanlaw01_TwinActs.l1.eq_2] at hl1_
    show Tr Tryz.prog _ [⟨4, vInt .i64, v4_1⟩, ⟨0, vSlice k_aAct, l⟩, ⟨3, kVal.v, g3_1⟩] [rArr g3_1 41 k_aAct w3_1] _ _
    refine t_seq ?_
    refine t_seq ?_
    refine t_reg ?_
    refine st (l_move (o_t rfl) (lt rfl)) ?_
    refine st (l_move (o_t rfl) (lt rfl)) ?_
    refine st (l_lens (o_t rfl) sl26 (lt rfl)) ?_
    refine st (l_cmp (o_t rfl) (o_t rfl) .lss (lt rfl)) ?_
    refine r_nil (k_seq ?_)
    rcases bt (decide (v4_1 < (l.length : Int))) with hb4 | hb4
    · rw [if_neg (nt hb4)] at hl1_
      refine t_iff (o_t rfl) hb4 ?_
      exact t_exit (k_te <| k_te <| k_be <| k_brk (w3_1, g3_1) (Option.some.inj hl1_).symm (Sub.cons rfl (Sub.cons rfl (Sub.nil _))) rfl)
    · rw [if_pos hb4] at hl1_
      refine t_ift (o_t rfl) hb4 ?_
      refine t_skip (k_seq ?_)
      refine t_seq ?_
      refine t_blk ?_
      refine t_reg ?_
      refine st (l_move (o_t rfl) (lt rfl)) ?_
      refine st (l_move (o_t rfl) (lt rfl)) ?_
      refine st (l_move (o_t rfl) (lt rfl)) ?_
      obtain ⟨t5, h6, hl1_⟩ := bs hl1_
      refine st (l_ia (o_t rfl) (o_t rfl) h6 sl26 sz41 (lt rfl)) ?_
      refine st (l_ld (o_t rfl) ty41 (lt rfl)) ?_
      obtain ⟨t7, h8, hl1_⟩ := bs hl1_
      refine st (l_call (ok70 t5 _ h8) (.cons (o_t rfl) (.nil)) (lt rfl)) ?_
      refine st (l_bslice (.cons (o_t rfl) (.nil)) rfl (Nat.le_of_ble_eq_true rfl) (lt rfl) sl26 zb41 sz41 (lt rfl)) ?_
      rcases bt (appFits 64 w3_1.length 1) with hc9 | hc9
      · rw [if_neg (nt hc9)] at hl1_; cases hl1_
      rw [if_pos hc9] at hl1_
      refine r_app (i := 0) el26 rfl (o_t rfl) (o_t rfl) rfl (by simp) hc9 (lt rfl) (fun o10 => ?_)
      refine st (l_assign (o_t rfl) (lt rfl)) ?_
      refine r_nil (k_bn <| k_seq ?_)
      refine t_reg ?_
      refine st (l_move (o_t rfl) (lt rfl)) ?_
      refine st (l_bin (o_t rfl) (o_i) .add (lt rfl)) ?_
      refine st (l_assign (o_t rfl) (lt rfl)) ?_
      exact r_nil (k_again (k1_, IntKind.wrap .i64 (v4_1 + (1 : Int)), (w3_1 ++ [t7]), o10) hl1_ (Nat.lt_succ_self _) (Sub.cons rfl (Sub.cons rfl (Sub.cons rfl (Sub.nil _)))) rfl)
  · rintro ⟨s1_, g3_1⟩ hs1_
    replace hs1_ : s1_ = res1_ := Eq.symm hs1_
    subst hs1_
    have hp_ := hx1_
    clear hx1_
    show Kx _ [⟨0, vSlice k_aAct, l⟩, ⟨3, kVal.v, g3_1⟩] [rArr g3_1 41 k_aAct s1_] _ _
    refine k_seq ?_
    refine t_seq ?_
    refine t_reg ?_
    refine st (l_move (o_t rfl) (lt rfl)) ?_
    refine st (l_build zr41 (.cons (o_s) fl_aAct_0 ft41_0 (.nil)) rfl stb41 (lt rfl)) ?_
    refine st (l_bslice (.cons (o_t rfl) (.nil)) rfl (Nat.le_of_ble_eq_true rfl) (lt rfl) sl26 zb41 sz41 (lt rfl)) ?_
    rcases bt (appFits 64 s1_.length 1) with hc11 | hc11
    · rw [if_neg (nt hc11)] at hp_; cases hp_
    rw [if_pos hc11] at hp_
    refine r_app (i := 0) el26 rfl (o_t rfl) (o_t rfl) rfl (by simp) hc11 (lt rfl) (fun o12 => ?_)
    refine st (l_move (o_t rfl) (lt rfl)) ?_
    refine st (l_lens (o_t rfl) sl26 (lt rfl)) ?_
    rcases bt (decide (0 ≤ (l.length : Int)) && decide ((l.length : Int) ≤ ((s1_ ++ [(aAct.mk (⟨#[115, 112, 97, 114, 101]⟩ : ByteArray) [] [])]).length : Int))) with hc13 | hc13
    · rw [if_neg (nt hc13)] at hp_; cases hp_
    rw [if_pos hc13] at hp_
    refine r_slo (i := 0) (o_t rfl) rfl (oo_s (o_t rfl)) hc13 sl26 sz41 (lt rfl) (fun o14 => ?_)
    refine st (l_assign (o_t rfl) (lt rfl)) ?_
    refine r_nil (k_seq ?_)
    cases hp_
    exact t_ret (k_keep (pm_take 0 rfl pm_nil) <| k_ret o14 rfl rfl rfl rfl rfl)
-- pointsman/pointsmanlaw01.TwinKinds
theorem ok105 (l : List Int) (y_ : List Int) (hp_ : pointsmanlaw01_TwinKinds l = some y_) : FP Tryz.prog 105 [⟨vSlice (kInt .u8), l⟩] (vSlice (kInt .u8)) y_ := by
  unfold pointsmanlaw01_TwinKinds at hp_
  refine fc_of 28 Tryz.func105 rfl fn105 rfl (Nat.le_of_ble_eq_true rfl) fun I_ w_ F_ => ?_
  refine t_seq ?_
  refine t_reg ?_
  refine st (l_assign (o_nil (K := kInt .u8)) (lt rfl)) ?_
  refine r_nil (k_seq ?_)
  refine t_seq ?_
  refine t_reg ?_
  refine st (l_move (o_t rfl) (lt rfl)) ?_
  refine st (l_lens (o_t rfl) sl36 (lt rfl)) ?_
  refine st (l_bin (o_t rfl) (o_i) .add (lt rfl)) ?_
  rcases bt (mkFits 1 (IntKind.wrap .i64 ((l.length : Int) + (1 : Int)))) with hc1 | hc1
  · rw [if_neg (nt hc1)] at hp_; cases hp_
  rw [if_pos hc1] at hp_
  refine r_mk0 el36 (o_i) (o_t rfl) hc1 (lt rfl) (fun o2 => ?_)
  refine st (l_assign (o_t rfl) (lt rfl)) ?_
  refine r_nil (k_seq ?_)
  refine t_seq ?_
  refine t_seq ?_
  refine t_reg ?_
  refine st (l_assign (o_i) (lt rfl)) ?_
  refine r_nil (k_seq ?_)
  obtain ⟨res1_, hl1_0, hx1_⟩ := bs hp_
  clear hp_
  refine t_sub (Γ' := [⟨4, vInt .i64, (0 : Int)⟩, ⟨0, vSlice (kInt .u8), l⟩, ⟨3, kVal.v, o2⟩]) (Sub.cons rfl (Sub.cons rfl (Sub.cons rfl (Sub.nil _)))) ?_
  refine t_bloop (β := Nat × Int × (List Int) × Value) (σ := (List Int) × Value) (fun x_ => [⟨4, vInt .i64, x_.2.1⟩, ⟨0, vSlice (kInt .u8), l⟩, ⟨3, kVal.v, x_.2.2.2⟩]) (fun x_ => [rArr x_.2.2.2 103 (kInt .u8) x_.2.2.1]) (fun x_ => pointsmanlaw01_TwinKinds.l1 x_.1 l x_.2.1 x_.2.2.1 = some res1_) (fun x_ => x_.1) (fun x_ => [⟨0, vSlice (kInt .u8), l⟩, ⟨3, kVal.v, x_.2⟩]) (fun x_ => [rArr x_.2 103 (kInt .u8) x_.1]) (fun x_ => res1_ = x_.1) ?_ ?_ ((((l.length : Int) - (0 : Int)).toNat + 1), (0 : Int), [], o2) hl1_0
  · rintro ⟨k1_, v4_1, w3_1, g3_1⟩ hl1_
    rcases k1_ with _ | k1_
    · exact absurd (show none = some res1_ from hl1_) (by simp)
    replace hl1_ : pointsmanlaw01_TwinKinds.l1 (k1_ + 1) l v4_1 w3_1 = some res1_ := hl1_
    rw [pointsmanlaw01_TwinKinds.l1.eq_2] at hl1_
    show Tr Tryz.prog _ [⟨4, vInt .i64, v4_1⟩, ⟨0, vSlice (kInt .u8), l⟩, ⟨3, kVal.v, g3_1⟩] [rArr g3_1 103 (kInt .u8) w3_1] _ _
    refine t_seq ?_
    refine t_seq ?_
    refine t_reg ?_
    refine st (l_move (o_t rfl) (lt rfl)) ?_
    refine st (l_move (o_t rfl) (lt rfl)) ?_
    refine st (l_lens (o_t rfl) sl36 (lt rfl)) ?_
    refine st (l_cmp (o_t rfl) (o_t rfl) .lss (lt rfl)) ?_
    refine r_nil (k_seq ?_)
    rcases bt (decide (v4_1 < (l.length : Int))) with hb4 | hb4
    · rw [if_neg (nt hb4)] at hl1_
      refine t_iff (o_t rfl) hb4 ?_
      exact t_exit (k_te <| k_te <| k_be <| k_brk (w3_1, g3_1) (Option.some.inj hl1_).symm (Sub.cons rfl (Sub.cons rfl (Sub.nil _))) rfl)
    · rw [if_pos hb4] at hl1_
      refine t_ift (o_t rfl) hb4 ?_
      refine t_skip (k_seq ?_)
      refine t_seq ?_
      refine t_blk ?_
      refine t_reg ?_
      refine st (l_move (o_t rfl) (lt rfl)) ?_
      refine st (l_move (o_t rfl) (lt rfl)) ?_
      refine st (l_move (o_t rfl) (lt rfl)) ?_
      obtain ⟨t5, h6, hl1_⟩ := bs hl1_
      refine st (l_ia (o_t rfl) (o_t rfl) h6 sl36 sz103 (lt rfl)) ?_
      refine st (l_ld (o_t rfl) ty103 (lt rfl)) ?_
      refine st (l_bslice (.cons (o_t rfl) (.nil)) rfl (Nat.le_of_ble_eq_true rfl) (lt rfl) sl36 zb103 sz103 (lt rfl)) ?_
      rcases bt (appFits 1 w3_1.length 1) with hc7 | hc7
      · rw [if_neg (nt hc7)] at hl1_; cases hl1_
      rw [if_pos hc7] at hl1_
      refine r_app (i := 0) el36 rfl (o_t rfl) (o_t rfl) rfl (by simp) hc7 (lt rfl) (fun o8 => ?_)
      refine st (l_assign (o_t rfl) (lt rfl)) ?_
      refine r_nil (k_bn <| k_seq ?_)
      refine t_reg ?_
      refine st (l_move (o_t rfl) (lt rfl)) ?_
      refine st (l_bin (o_t rfl) (o_i) .add (lt rfl)) ?_
      refine st (l_assign (o_t rfl) (lt rfl)) ?_
      exact r_nil (k_again (k1_, IntKind.wrap .i64 (v4_1 + (1 : Int)), (w3_1 ++ [t5]), o8) hl1_ (Nat.lt_succ_self _) (Sub.cons rfl (Sub.cons rfl (Sub.cons rfl (Sub.nil _)))) rfl)
  · rintro ⟨s1_, g3_1⟩ hs1_
    replace hs1_ : s1_ = res1_ := Eq.symm hs1_
    subst hs1_
    have hp_ := hx1_
    clear hx1_
    show Kx _ [⟨0, vSlice (kInt .u8), l⟩, ⟨3, kVal.v, g3_1⟩] [rArr g3_1 103 (kInt .u8) s1_] _ _
    refine k_seq ?_
    refine t_seq ?_
    refine t_reg ?_
    refine st (l_move (o_t rfl) (lt rfl)) ?_
    refine st (l_bslice (.cons (o_i) (.nil)) rfl (Nat.le_of_ble_eq_true rfl) (lt rfl) sl36 zb103 sz103 (lt rfl)) ?_
    rcases bt (appFits 1 s1_.length 1) with hc9 | hc9
    · rw [if_neg (nt hc9)] at hp_; cases hp_
    rw [if_pos hc9] at hp_
    refine r_app (i := 0) el36 rfl (o_t rfl) (o_t rfl) rfl (by simp) hc9 (lt rfl) (fun o10 => ?_)
    refine st (l_move (o_t rfl) (lt rfl)) ?_
    refine st (l_lens (o_t rfl) sl36 (lt rfl)) ?_
    rcases bt (decide (0 ≤ (l.length : Int)) && decide ((l.length : Int) ≤ ((s1_ ++ [(77 : Int)]).length : Int))) with hc11 | hc11
    · rw [if_neg (nt hc11)] at hp_; cases hp_
    rw [if_pos hc11] at hp_
    refine r_slo (i := 0) (o_t rfl) rfl (oo_s (o_t rfl)) hc11 sl36 sz103 (lt rfl) (fun o12 => ?_)
    refine st (l_assign (o_t rfl) (lt rfl)) ?_
    refine r_nil (k_seq ?_)
    cases hp_
    exact t_ret (k_frz (s := 2) (i := 0) rfl rfl <| k_drop <| k_ret () rfl rfl rfl rfl rfl)
-- pointsman/pointsmanlaw01.TwinNumbers
theorem ok106 (l : List aBits) (y_ : List aBits) (hp_ : pointsmanlaw01_TwinNumbers l = some y_) : FP Tryz.prog 106 [⟨vSlice k_aBits, l⟩] (vSlice k_aBits) y_ := by
  unfold pointsmanlaw01_TwinNumbers at hp_
  refine fc_of 29 Tryz.func106 rfl fn106 rfl (Nat.le_of_ble_eq_true rfl) fun I_ w_ F_ => ?_
  refine t_seq ?_
  refine t_reg ?_
  refine st (l_assign (o_nil (K := k_aBits)) (lt rfl)) ?_
  refine r_nil (k_seq ?_)
  refine t_seq ?_
  refine t_reg ?_
  refine st (l_move (o_t rfl) (lt rfl)) ?_
  refine st (l_lens (o_t rfl) sl37 (lt rfl)) ?_
  refine st (l_bin (o_t rfl) (o_i) .add (lt rfl)) ?_
  rcases bt (mkFits 24 (IntKind.wrap .i64 ((l.length : Int) + (1 : Int)))) with hc1 | hc1
  · rw [if_neg (nt hc1)] at hp_; cases hp_
  rw [if_pos hc1] at hp_
  refine r_mk0 el37 (o_i) (o_t rfl) hc1 (lt rfl) (fun o2 => ?_)
  refine st (l_assign (o_t rfl) (lt rfl)) ?_
  refine r_nil (k_seq ?_)
  refine t_seq ?_
  refine t_seq ?_
  refine t_reg ?_
  refine st (l_assign (o_i) (lt rfl)) ?_
  refine r_nil (k_seq ?_)
  obtain ⟨res1_, hl1_0, hx1_⟩ := bs hp_
  clear hp_
  refine t_sub (Γ' := [⟨4, vInt .i64, (0 : Int)⟩, ⟨0, vSlice k_aBits, l⟩, ⟨3, kVal.v, o2⟩]) (Sub.cons rfl (Sub.cons rfl (Sub.cons rfl (Sub.nil _)))) ?_
  refine t_bloop (β := Nat × Int × (List aBits) × Value) (σ := (List aBits) × Value) (fun x_ => [⟨4, vInt .i64, x_.2.1⟩, ⟨0, vSlice k_aBits, l⟩, ⟨3, kVal.v, x_.2.2.2⟩]) (fun x_ => [rArr x_.2.2.2 72 k_aBits x_.2.2.1]) (fun x_ => pointsmanlaw01_TwinNumbers.l1 x_.1 l x_.2.1 x_.2.2.1 = some res1_) (fun x_ => x_.1) (fun x_ => [⟨0, vSlice k_aBits, l⟩, ⟨3, kVal.v, x_.2⟩]) (fun x_ => [rArr x_.2 72 k_aBits x_.1]) (fun x_ => res1_ = x_.1) ?_ ?_ ((((l.length : Int) - (0 : Int)).toNat + 1), (0 : Int), [], o2) hl1_0
  · rintro ⟨k1_, v4_1, w3_1, g3_1⟩ hl1_
    rcases k1_ with _ | k1_
    · exact absurd (show none = some res1_ from hl1_) (by simp)
    replace hl1_ : pointsmanlaw01_TwinNumbers.l1 (k1_ + 1) l v4_1 w3_1 = some res1_ := hl1_
    rw [pointsmanlaw01_TwinNumbers.l1.eq_2] at hl1_
    show Tr Tryz.prog _ [⟨4, vInt .i64, v4_1⟩, ⟨0, vSlice k_aBits, l⟩, ⟨3, kVal.v, g3_1⟩] [rArr g3_1 72 k_aBits w3_1] _ _
    refine t_seq ?_
    refine t_seq ?_
    refine t_reg ?_
    refine st (l_move (o_t rfl) (lt rfl)) ?_
    refine st (l_move (o_t rfl) (lt rfl)) ?_
    refine st (l_lens (o_t rfl) sl37 (lt rfl)) ?_
    refine st (l_cmp (o_t rfl) (o_t rfl) .lss (lt rfl)) ?_
    refine r_nil (k_seq ?_)
    rcases bt (decide (v4_1 < (l.length : Int))) with hb4 | hb4
    · rw [if_neg (nt hb4)] at hl1_
      refine t_iff (o_t rfl) hb4 ?_
      exact t_exit (k_te <| k_te <| k_be <| k_brk (w3_1, g3_1) (Option.some.inj hl1_).symm (Sub.cons rfl (Sub.cons rfl (Sub.nil _))) rfl)
    · rw [if_pos hb4] at hl1_
      refine t_ift (o_t rfl) hb4 ?_
      refine t_skip (k_seq ?_)
      refine t_seq ?_
      refine t_blk ?_
      refine t_reg ?_
      refine st (l_move (o_t rfl) (lt rfl)) ?_
      refine st (l_move (o_t rfl) (lt rfl)) ?_
      refine st (l_move (o_t rfl) (lt rfl)) ?_
      obtain ⟨t5, h6, hl1_⟩ := bs hl1_
      refine st (l_ia (o_t rfl) (o_t rfl) h6 sl37 sz72 (lt rfl)) ?_
      refine st (l_ld (o_t rfl) ty72 (lt rfl)) ?_
      refine st (l_bslice (.cons (o_t rfl) (.nil)) rfl (Nat.le_of_ble_eq_true rfl) (lt rfl) sl37 zb72 sz72 (lt rfl)) ?_
      rcases bt (appFits 24 w3_1.length 1) with hc7 | hc7
      · rw [if_neg (nt hc7)] at hl1_; cases hl1_
      rw [if_pos hc7] at hl1_
      refine r_app (i := 0) el37 rfl (o_t rfl) (o_t rfl) rfl (by simp) hc7 (lt rfl) (fun o8 => ?_)
      refine st (l_assign (o_t rfl) (lt rfl)) ?_
      refine r_nil (k_bn <| k_seq ?_)
      refine t_reg ?_
      refine st (l_move (o_t rfl) (lt rfl)) ?_
      refine st (l_bin (o_t rfl) (o_i) .add (lt rfl)) ?_
      refine st (l_assign (o_t rfl) (lt rfl)) ?_
      exact r_nil (k_again (k1_, IntKind.wrap .i64 (v4_1 + (1 : Int)), (w3_1 ++ [t5]), o8) hl1_ (Nat.lt_succ_self _) (Sub.cons rfl (Sub.cons rfl (Sub.cons rfl (Sub.nil _)))) rfl)
  · rintro ⟨s1_, g3_1⟩ hs1_
    replace hs1_ : s1_ = res1_ := Eq.symm hs1_
    subst hs1_
    have hp_ := hx1_
    clear hx1_
    show Kx _ [⟨0, vSlice k_aBits, l⟩, ⟨3, kVal.v, g3_1⟩] [rArr g3_1 72 k_aBits s1_] _ _
    refine k_seq ?_
    refine t_seq ?_
    refine t_reg ?_
    refine st (l_move (o_t rfl) (lt rfl)) ?_
    refine st (l_build zr72 (.cons (o_i) fl_aBits_0 ft72_0 (.nil)) rfl stb72 (lt rfl)) ?_
    refine st (l_bslice (.cons (o_t rfl) (.nil)) rfl (Nat.le_of_ble_eq_true rfl) (lt rfl) sl37 zb72 sz72 (lt rfl)) ?_
    rcases bt (appFits 24 s1_.length 1) with hc9 | hc9
    · rw [if_neg (nt hc9)] at hp_; cases hp_
    rw [if_pos hc9] at hp_
    refine r_app (i := 0) el37 rfl (o_t rfl) (o_t rfl) rfl (by simp) hc9 (lt rfl) (fun o10 => ?_)
    refine st (l_move (o_t rfl) (lt rfl)) ?_
    refine st (l_lens (o_t rfl) sl37 (lt rfl)) ?_
    rcases bt (decide (0 ≤ (l.length : Int)) && decide ((l.length : Int) ≤ ((s1_ ++ [(aBits.mk (77 : Int) 0 0)]).length : Int))) with hc11 | hc11
    · rw [if_neg (nt hc11)] at hp_; cases hp_
    rw [if_pos hc11] at hp_
    refine r_slo (i := 0) (o_t rfl) rfl (oo_s (o_t rfl)) hc11 sl37 sz72 (lt rfl) (fun o12 => ?_)
    refine st (l_assign (o_t rfl) (lt rfl)) ?_
    refine r_nil (k_seq ?_)
    cases hp_
    exact t_ret (k_frz (s := 2) (i := 0) rfl rfl <| k_drop <| k_ret () rfl rfl rfl rfl rfl)
-- pointsman/pointsmanlaw01.TwinTable
theorem ok71 (x : aTable) (y_ : aTable) (hp_ : pointsmanlaw01_TwinTable x = some y_) : FP Tryz.prog 71 [⟨(k_aTable).v, x⟩] ((k_aTable).v) y_ := by
  unfold pointsmanlaw01_TwinTable at hp_
  refine fc_of 25 Tryz.func71 rfl fn71 rfl (Nat.le_of_ble_eq_true rfl) fun I_ w_ F_ => ?_
  refine t_seq ?_
  refine t_reg ?_
  refine st (l_box (o_t rfl) (lt rfl)) ?_
  refine r_alloc zr39 (lt rfl) (fun b1 => ?_)
  refine r_nil (k_seq ?_)
  refine t_seq ?_
  obtain ⟨t3, h4, hp_⟩ := bs hp_
  obtain ⟨t5, h6, hp_⟩ := bs hp_
  obtain ⟨t7, h8, hp_⟩ := bs hp_
  obtain ⟨t9, h10, hp_⟩ := bs hp_
  obtain ⟨t11, h12, hp_⟩ := bs hp_
  refine t_draw [(0, fun gs_ => some ⟨3, vPtr kStr, x.Name⟩), (0, fun gs_ => some ⟨4, vStr, x.Name⟩), (0, fun gs_ => some ⟨5, vPtr (kSlice (kInt .i64)), x.Keys⟩), (0, fun gs_ => some ⟨6, vSlice (kInt .i64), x.Keys⟩), (0, fun gs_ => some ⟨7, vSlice (kInt .i64), t3⟩), (0, fun gs_ => some ⟨8, vPtr (kSlice (kInt .u8)), x.Kinds⟩), (0, fun gs_ => some ⟨9, vSlice (kInt .u8), x.Kinds⟩), (0, fun gs_ => some ⟨10, vSlice (kInt .u8), t5⟩), (0, fun gs_ => some ⟨11, vPtr (kSlice (kInt .i64)), x.Actions⟩), (0, fun gs_ => some ⟨12, vSlice (kInt .i64), x.Actions⟩), (0, fun gs_ => some ⟨13, vSlice (kInt .i64), t7⟩), (0, fun gs_ => some ⟨14, vPtr (kInt .i64), x.Default⟩), (0, fun gs_ => some ⟨15, vInt .i64, x.Default⟩), (0, fun gs_ => some ⟨16, vPtr (kSlice k_aBits), x.Args⟩), (0, fun gs_ => some ⟨17, vSlice k_aBits, x.Args⟩), (0, fun gs_ => some ⟨18, vSlice k_aBits, t9⟩), (0, fun gs_ => some ⟨19, vPtr (kInt .i64), x.Size⟩), (0, fun gs_ => some ⟨20, vInt .i64, x.Size⟩), (0, fun gs_ => some ⟨21, vPtr (kSlice k_aIns), x.Before⟩), (0, fun gs_ => some ⟨22, vSlice k_aIns, x.Before⟩), (0, fun gs_ => some ⟨23, vSlice k_aIns, t11⟩), (0, fun gs_ => some ⟨24, (k_aTable).v, (aTable.mk x.Name t3 t5 t7 x.Default t9 x.Size t11)⟩), (1, fun gs_ => none)] mixed rfl rfl (fun gs_ => [] ++ ph gs_ [fun gs_ => [rBox b1 39 k_aTable (aTable.mk ByteArray.empty [] [] [] 0 [] 0 [])], fun gs_ => [rBox b1 39 k_aTable (aTable.mk x.Name t3 t5 t7 x.Default t9 x.Size t11)]]) [22] rfl (.x (f := fun gs_ => ⟨3, vPtr kStr, x.Name⟩) 0 (fun gs_ => [⟨1, vPtr k_aTable, x⟩]) rfl (fun gs_ => l_fa (o_t rfl) fl_aTable_0 fa39_0 (lt rfl)) (fun gs_ => .b rfl rfl (.nil)) .n (fun _ => rfl) rfl (fun _ _ _ => rfl) (.x (f := fun gs_ => ⟨4, vStr, x.Name⟩) 0 (fun gs_ => [⟨3, vPtr kStr, x.Name⟩]) rfl (fun gs_ => l_ld (o_t rfl) ty9 (lt rfl)) (fun gs_ => .d 0 rfl rfl (.nil)) .n (fun _ => rfl) rfl (fun _ _ _ => rfl) (.x (f := fun gs_ => ⟨5, vPtr (kSlice (kInt .i64)), x.Keys⟩) 0 (fun gs_ => [⟨1, vPtr k_aTable, x⟩]) rfl (fun gs_ => l_fa (o_t rfl) fl_aTable_1 fa39_1 (lt rfl)) (fun gs_ => .b rfl rfl (.nil)) .n (fun _ => rfl) rfl (fun _ _ _ => rfl) (.x (f := fun gs_ => ⟨6, vSlice (kInt .i64), x.Keys⟩) 0 (fun gs_ => [⟨5, vPtr (kSlice (kInt .i64)), x.Keys⟩]) rfl (fun gs_ => l_ld (o_t rfl) ty22 (lt rfl)) (fun gs_ => .d 2 rfl rfl (.nil)) .n (fun _ => rfl) rfl (fun _ _ _ => rfl) (.x (f := fun gs_ => ⟨7, vSlice (kInt .i64), t3⟩) 0 (fun gs_ => [⟨6, vSlice (kInt .i64), x.Keys⟩]) rfl (fun gs_ => l_call (ok30 x.Keys _ h4) (.cons (o_t rfl) (.nil)) (lt rfl)) (fun gs_ => .d 3 rfl rfl (.nil)) .n (fun _ => rfl) rfl (fun _ _ _ => rfl) (.x (f := fun gs_ => ⟨8, vPtr (kSlice (kInt .u8)), x.Kinds⟩) 0 (fun gs_ => [⟨1, vPtr k_aTable, x⟩]) rfl (fun gs_ => l_fa (o_t rfl) fl_aTable_2 fa39_2 (lt rfl)) (fun gs_ => .b rfl rfl (.nil)) .n (fun _ => rfl) rfl (fun _ _ _ => rfl) (.x (f := fun gs_ => ⟨9, vSlice (kInt .u8), x.Kinds⟩) 0 (fun gs_ => [⟨8, vPtr (kSlice (kInt .u8)), x.Kinds⟩]) rfl (fun gs_ => l_ld (o_t rfl) ty36 (lt rfl)) (fun gs_ => .d 5 rfl rfl (.nil)) .n (fun _ => rfl) rfl (fun _ _ _ => rfl) (.x (f := fun gs_ => ⟨10, vSlice (kInt .u8), t5⟩) 0 (fun gs_ => [⟨9, vSlice (kInt .u8), x.Kinds⟩]) rfl (fun gs_ => l_call (ok105 x.Kinds _ h6) (.cons (o_t rfl) (.nil)) (lt rfl)) (fun gs_ => .d 6 rfl rfl (.nil)) .n (fun _ => rfl) rfl (fun _ _ _ => rfl) (.x (f := fun gs_ => ⟨11, vPtr (kSlice (kInt .i64)), x.Actions⟩) 0 (fun gs_ => [⟨1, vPtr k_aTable, x⟩]) rfl (fun gs_ => l_fa (o_t rfl) fl_aTable_3 fa39_3 (lt rfl)) (fun gs_ => .b rfl rfl (.nil)) .n (fun _ => rfl) rfl (fun _ _ _ => rfl) (.x (f := fun gs_ => ⟨12, vSlice (kInt .i64), x.Actions⟩) 0 (fun gs_ => [⟨11, vPtr (kSlice (kInt .i64)), x.Actions⟩]) rfl (fun gs_ => l_ld (o_t rfl) ty22 (lt rfl)) (fun gs_ => .d 8 rfl rfl (.nil)) .n (fun _ => rfl) rfl (fun _ _ _ => rfl) (.x (f := fun gs_ => ⟨13, vSlice (kInt .i64), t7⟩) 0 (fun gs_ => [⟨12, vSlice (kInt .i64), x.Actions⟩]) rfl (fun gs_ => l_call (ok30 x.Actions _ h8) (.cons (o_t rfl) (.nil)) (lt rfl)) (fun gs_ => .d 9 rfl rfl (.nil)) .n (fun _ => rfl) rfl (fun _ _ _ => rfl) (.x (f := fun gs_ => ⟨14, vPtr (kInt .i64), x.Default⟩) 0 (fun gs_ => [⟨1, vPtr k_aTable, x⟩]) rfl (fun gs_ => l_fa (o_t rfl) fl_aTable_4 fa39_4 (lt rfl)) (fun gs_ => .b rfl rfl (.nil)) .n (fun _ => rfl) rfl (fun _ _ _ => rfl) (.x (f := fun gs_ => ⟨15, vInt .i64, x.Default⟩) 0 (fun gs_ => [⟨14, vPtr (kInt .i64), x.Default⟩]) rfl (fun gs_ => l_ld (o_t rfl) ty3 (lt rfl)) (fun gs_ => .d 11 rfl rfl (.nil)) .n (fun _ => rfl) rfl (fun _ _ _ => rfl) (.x (f := fun gs_ => ⟨16, vPtr (kSlice k_aBits), x.Args⟩) 0 (fun gs_ => [⟨1, vPtr k_aTable, x⟩]) rfl (fun gs_ => l_fa (o_t rfl) fl_aTable_5 fa39_5 (lt rfl)) (fun gs_ => .b rfl rfl (.nil)) .n (fun _ => rfl) rfl (fun _ _ _ => rfl) (.x (f := fun gs_ => ⟨17, vSlice k_aBits, x.Args⟩) 0 (fun gs_ => [⟨16, vPtr (kSlice k_aBits), x.Args⟩]) rfl (fun gs_ => l_ld (o_t rfl) ty37 (lt rfl)) (fun gs_ => .d 13 rfl rfl (.nil)) .n (fun _ => rfl) rfl (fun _ _ _ => rfl) (.x (f := fun gs_ => ⟨18, vSlice k_aBits, t9⟩) 0 (fun gs_ => [⟨17, vSlice k_aBits, x.Args⟩]) rfl (fun gs_ => l_call (ok106 x.Args _ h10) (.cons (o_t rfl) (.nil)) (lt rfl)) (fun gs_ => .d 14 rfl rfl (.nil)) .n (fun _ => rfl) rfl (fun _ _ _ => rfl) (.x (f := fun gs_ => ⟨19, vPtr (kInt .i64), x.Size⟩) 0 (fun gs_ => [⟨1, vPtr k_aTable, x⟩]) rfl (fun gs_ => l_fa (o_t rfl) fl_aTable_6 fa39_6 (lt rfl)) (fun gs_ => .b rfl rfl (.nil)) .n (fun _ => rfl) rfl (fun _ _ _ => rfl) (.x (f := fun gs_ => ⟨20, vInt .i64, x.Size⟩) 0 (fun gs_ => [⟨19, vPtr (kInt .i64), x.Size⟩]) rfl (fun gs_ => l_ld (o_t rfl) ty3 (lt rfl)) (fun gs_ => .d 16 rfl rfl (.nil)) .n (fun _ => rfl) rfl (fun _ _ _ => rfl) (.x (f := fun gs_ => ⟨21, vPtr (kSlice k_aIns), x.Before⟩) 0 (fun gs_ => [⟨1, vPtr k_aTable, x⟩]) rfl (fun gs_ => l_fa (o_t rfl) fl_aTable_7 fa39_7 (lt rfl)) (fun gs_ => .b rfl rfl (.nil)) .n (fun _ => rfl) rfl (fun _ _ _ => rfl) (.x (f := fun gs_ => ⟨22, vSlice k_aIns, x.Before⟩) 0 (fun gs_ => [⟨21, vPtr (kSlice k_aIns), x.Before⟩]) rfl (fun gs_ => l_ld (o_t rfl) ty25 (lt rfl)) (fun gs_ => .d 18 rfl rfl (.nil)) .n (fun _ => rfl) rfl (fun _ _ _ => rfl) (.x (f := fun gs_ => ⟨23, vSlice k_aIns, t11⟩) 0 (fun gs_ => [⟨22, vSlice k_aIns, x.Before⟩]) rfl (fun gs_ => l_call (ok33 x.Before _ h12) (.cons (o_t rfl) (.nil)) (lt rfl)) (fun gs_ => .d 19 rfl rfl (.nil)) .n (fun _ => rfl) rfl (fun _ _ _ => rfl) (.x (f := fun gs_ => ⟨24, (k_aTable).v, (aTable.mk x.Name t3 t5 t7 x.Default t9 x.Size t11)⟩) 0 (fun gs_ => [⟨4, vStr, x.Name⟩, ⟨7, vSlice (kInt .i64), t3⟩, ⟨10, vSlice (kInt .u8), t5⟩, ⟨13, vSlice (kInt .i64), t7⟩, ⟨15, vInt .i64, x.Default⟩, ⟨18, vSlice k_aBits, t9⟩, ⟨20, vInt .i64, x.Size⟩, ⟨23, vSlice k_aIns, t11⟩]) rfl (fun gs_ => l_build zr39 (.cons (o_t rfl) fl_aTable_0 ft39_0 (.cons (o_t rfl) fl_aTable_1 ft39_1 (.cons (o_t rfl) fl_aTable_2 ft39_2 (.cons (o_t rfl) fl_aTable_3 ft39_3 (.cons (o_t rfl) fl_aTable_4 ft39_4 (.cons (o_t rfl) fl_aTable_5 ft39_5 (.cons (o_t rfl) fl_aTable_6 ft39_6 (.cons (o_t rfl) fl_aTable_7 ft39_7 (.nil))))))))) rfl stb39 (lt rfl)) (fun gs_ => .d 1 rfl rfl (.d 4 rfl rfl (.d 7 rfl rfl (.d 10 rfl rfl (.d 12 rfl rfl (.d 15 rfl rfl (.d 17 rfl rfl (.d 20 rfl rfl (.nil))))))))) .n (fun _ => rfl) rfl (fun _ _ _ => rfl) (.e (f := fun gs_ => none) 0 (fun gs_ => [⟨2, vLoc, (b1, 0)⟩, ⟨24, (k_aTable).v, (aTable.mk x.Name t3 t5 t7 x.Default t9 x.Size t11)⟩]) rfl (fun gs_ hg_ => by obtain rfl := len0 hg_; show LocX _ _ _ [rBox b1 39 k_aTable (aTable.mk ByteArray.empty [] [] [] 0 [] 0 [])] _ (fun gh900_ => none) (fun gh900_ => [rBox b1 39 k_aTable (aTable.mk x.Name t3 t5 t7 x.Default t9 x.Size t11)]); exact e_stm (i := 0) (o_t rfl) (o_t rfl) rfl (Fld.refl _) sz39) (fun gs_ => .b rfl rfl (.d 21 rfl rfl (.nil))) .n (fun _ => rfl) rfl (fun _ _ _ => rfl) (.nil)))))))))))))))))))))))) (fun gs_ hgs_ => ?_)
  obtain ⟨gh900_, rfl⟩ := len1 hgs_
  show Kx _ _ [rBox b1 39 k_aTable (aTable.mk x.Name t3 t5 t7 x.Default t9 x.Size t11)] _ _
  refine k_seq ?_
  cases hp_
  exact t_ret (k_frzb (s := 2) (i := 0) rfl rfl <| k_drop <| k_retc () rfl ty39 rfl rfl rfl rfl)
-- pointsman/pointsmanlaw01.TwinTables
theorem ok35_0 (l : List aTable) (y_ : List aTable) (hp_ : pointsmanlaw01_TwinTables l = some y_) : FC Tryz.prog 35 [⟨vSlice k_aTable, l⟩] [] (fun v_ : Value => .ret kVal.v v_) (fun v_ => [rArr v_ 39 k_aTable y_]) := by
  unfold pointsmanlaw01_TwinTables at hp_
  refine fc_of 30 Tryz.func35 rfl fn35 rfl (Nat.le_of_ble_eq_true rfl) fun I_ w_ F_ => ?_
  refine t_seq ?_
  refine t_reg ?_
  refine st (l_assign (o_nil (K := k_aTable)) (lt rfl)) ?_
  refine r_nil (k_seq ?_)
  refine t_seq ?_
  refine t_reg ?_
  refine st (l_move (o_t rfl) (lt rfl)) ?_
  refine st (l_lens (o_t rfl) sl27 (lt rfl)) ?_
  refine st (l_bin (o_t rfl) (o_i) .add (lt rfl)) ?_
  rcases bt (mkFits 152 (IntKind.wrap .i64 ((l.length : Int) + (1 : Int)))) with hc1 | hc1
  · rw [if_neg (nt hc1)] at hp_; cases hp_
  rw [if_pos hc1] at hp_
  refine r_mk0 el27 (o_i) (o_t rfl) hc1 (lt rfl) (fun o2 => ?_)
  refine st (l_assign (o_t rfl) (lt rfl)) ?_
  refine r_nil (k_seq ?_)
  refine t_seq ?_
  refine t_seq ?_
  refine t_reg ?_
  refine st (l_assign (o_i) (lt rfl)) ?_
  refine r_nil (k_seq ?_)
  obtain ⟨res1_, hl1_0, hx1_⟩ := bs hp_
  clear hp_
  refine t_sub (Γ' := [⟨4, vInt .i64, (0 : Int)⟩, ⟨0, vSlice k_aTable, l⟩, ⟨3, kVal.v, o2⟩]) (Sub.cons rfl (Sub.cons rfl (Sub.cons rfl (Sub.nil _)))) ?_
  refine t_bloop (β := Nat × Int × (List aTable) × Value) (σ := (List aTable) × Value) (fun x_ => [⟨4, vInt .i64, x_.2.1⟩, ⟨0, vSlice k_aTable, l⟩, ⟨3, kVal.v, x_.2.2.2⟩]) (fun x_ => [rArr x_.2.2.2 39 k_aTable x_.2.2.1]) (fun x_ => pointsmanlaw01_TwinTables.l1 x_.1 l x_.2.1 x_.2.2.1 = some res1_) (fun x_ => x_.1) (fun x_ => [⟨0, vSlice k_aTable, l⟩, ⟨3, kVal.v, x_.2⟩]) (fun x_ => [rArr x_.2 39 k_aTable x_.1]) (fun x_ => res1_ = x_.1) ?_ ?_ ((((l.length : Int) - (0 : Int)).toNat + 1), (0 : Int), [], o2) hl1_0
  · rintro ⟨k1_, v4_1, w3_1, g3_1⟩ hl1_
    rcases k1_ with _ | k1_
    · exact absurd (show none = some res1_ from hl1_) (by simp)
    replace hl1_ : pointsmanlaw01_TwinTables.l1 (k1_ + 1) l v4_1 w3_1 = some res1_ := hl1_
    rw [pointsmanlaw01_TwinTables.l1.eq_2] at hl1_
    show Tr Tryz.prog _ [⟨4, vInt .i64, v4_1⟩, ⟨0, vSlice k_aTable, l⟩, ⟨3, kVal.v, g3_1⟩] [rArr g3_1 39 k_aTable w3_1] _ _
    refine t_seq ?_
    refine t_seq ?_
    refine t_reg ?_
    refine st (l_move (o_t rfl) (lt rfl)) ?_
    refine st (l_move (o_t rfl) (lt rfl)) ?_
    refine st (l_lens (o_t rfl) sl27 (lt rfl)) ?_
    refine st (l_cmp (o_t rfl) (o_t rfl) .lss (lt rfl)) ?_
    refine r_nil (k_seq ?_)
    rcases bt (decide (v4_1 < (l.length : Int))) with hb4 | hb4
    · rw [if_neg (nt hb4)] at hl1_
      refine t_iff (o_t rfl) hb4 ?_
      exact t_exit (k_te <| k_te <| k_be <| k_brk (w3_1, g3_1) (Option.some.inj hl1_).symm (Sub.cons rfl (Sub.cons rfl (Sub.nil _))) rfl)
    · rw [if_pos hb4] at hl1_
      refine t_ift (o_t rfl) hb4 ?_
      refine t_skip (k_seq ?_)
      refine t_seq ?_
      refine t_blk ?_
      refine t_reg ?_
      refine st (l_move (o_t rfl) (lt rfl)) ?_
      refine st (l_move (o_t rfl) (lt rfl)) ?_
      refine st (l_move (o_t rfl) (lt rfl)) ?_
      obtain ⟨t5, h6, hl1_⟩ := bs hl1_
      refine st (l_ia (o_t rfl) (o_t rfl) h6 sl27 sz39 (lt rfl)) ?_
      refine st (l_ld (o_t rfl) ty39 (lt rfl)) ?_
      obtain ⟨t7, h8, hl1_⟩ := bs hl1_
      refine st (l_call (ok71 t5 _ h8) (.cons (o_t rfl) (.nil)) (lt rfl)) ?_
      refine st (l_bslice (.cons (o_t rfl) (.nil)) rfl (Nat.le_of_ble_eq_true rfl) (lt rfl) sl27 zb39 sz39 (lt rfl)) ?_
      rcases bt (appFits 152 w3_1.length 1) with hc9 | hc9
      · rw [if_neg (nt hc9)] at hl1_; cases hl1_
      rw [if_pos hc9] at hl1_
      refine r_app (i := 0) el27 rfl (o_t rfl) (o_t rfl) rfl (by simp) hc9 (lt rfl) (fun o10 => ?_)
      refine st (l_assign (o_t rfl) (lt rfl)) ?_
      refine r_nil (k_bn <| k_seq ?_)
      refine t_reg ?_
      refine st (l_move (o_t rfl) (lt rfl)) ?_
      refine st (l_bin (o_t rfl) (o_i) .add (lt rfl)) ?_
      refine st (l_assign (o_t rfl) (lt rfl)) ?_
      exact r_nil (k_again (k1_, IntKind.wrap .i64 (v4_1 + (1 : Int)), (w3_1 ++ [t7]), o10) hl1_ (Nat.lt_succ_self _) (Sub.cons rfl (Sub.cons rfl (Sub.cons rfl (Sub.nil _)))) rfl)
  · rintro ⟨s1_, g3_1⟩ hs1_
    replace hs1_ : s1_ = res1_ := Eq.symm hs1_
    subst hs1_
    have hp_ := hx1_
    clear hx1_
    show Kx _ [⟨0, vSlice k_aTable, l⟩, ⟨3, kVal.v, g3_1⟩] [rArr g3_1 39 k_aTable s1_] _ _
    refine k_seq ?_
    refine t_seq ?_
    refine t_reg ?_
    refine st (l_move (o_t rfl) (lt rfl)) ?_
    refine st (l_build zr39 (.cons (o_s) fl_aTable_0 ft39_0 (.nil)) rfl stb39 (lt rfl)) ?_
    refine st (l_bslice (.cons (o_t rfl) (.nil)) rfl (Nat.le_of_ble_eq_true rfl) (lt rfl) sl27 zb39 sz39 (lt rfl)) ?_
    rcases bt (appFits 152 s1_.length 1) with hc11 | hc11
    · rw [if_neg (nt hc11)] at hp_; cases hp_
    rw [if_pos hc11] at hp_
    refine r_app (i := 0) el27 rfl (o_t rfl) (o_t rfl) rfl (by simp) hc11 (lt rfl) (fun o12 => ?_)
    refine st (l_move (o_t rfl) (lt rfl)) ?_
    refine st (l_lens (o_t rfl) sl27 (lt rfl)) ?_
    rcases bt (decide (0 ≤ (l.length : Int)) && decide ((l.length : Int) ≤ ((s1_ ++ [(aTable.mk (⟨#[115, 112, 97, 114, 101]⟩ : ByteArray) [] [] [] 0 [] 0 [])]).length : Int))) with hc13 | hc13
    · rw [if_neg (nt hc13)] at hp_; cases hp_
    rw [if_pos hc13] at hp_
    refine r_slo (i := 0) (o_t rfl) rfl (oo_s (o_t rfl)) hc13 sl27 sz39 (lt rfl) (fun o14 => ?_)
    refine st (l_assign (o_t rfl) (lt rfl)) ?_
    refine r_nil (k_seq ?_)
    cases hp_
    exact t_ret (k_keep (pm_take 0 rfl pm_nil) <| k_ret o14 rfl rfl rfl rfl rfl)
-- pointsman/pointsmanlaw01.TwinArrs
theorem ok36 (l : List aArr) (y_ : List aArr) (hp_ : pointsmanlaw01_TwinArrs l = some y_) : FP Tryz.prog 36 [⟨vSlice k_aArr, l⟩] (vSlice k_aArr) y_ := by
  unfold pointsmanlaw01_TwinArrs at hp_
  refine fc_of 29 Tryz.func36 rfl fn36 rfl (Nat.le_of_ble_eq_true rfl) fun I_ w_ F_ => ?_
  refine t_seq ?_
  refine t_reg ?_
  refine st (l_assign (o_nil (K := k_aArr)) (lt rfl)) ?_
  refine r_nil (k_seq ?_)
  refine t_seq ?_
  refine t_reg ?_
  refine st (l_move (o_t rfl) (lt rfl)) ?_
  refine st (l_lens (o_t rfl) sl28 (lt rfl)) ?_
  refine st (l_bin (o_t rfl) (o_i) .add (lt rfl)) ?_
  rcases bt (mkFits 32 (IntKind.wrap .i64 ((l.length : Int) + (1 : Int)))) with hc1 | hc1
  · rw [if_neg (nt hc1)] at hp_; cases hp_
  rw [if_pos hc1] at hp_
  refine r_mk0 el28 (o_i) (o_t rfl) hc1 (lt rfl) (fun o2 => ?_)
  refine st (l_assign (o_t rfl) (lt rfl)) ?_
  refine r_nil (k_seq ?_)
  refine t_seq ?_
  refine t_seq ?_
  refine t_reg ?_
  refine st (l_assign (o_i) (lt rfl)) ?_
  refine r_nil (k_seq ?_)
  obtain ⟨res1_, hl1_0, hx1_⟩ := bs hp_
  clear hp_
  refine t_sub (Γ' := [⟨4, vInt .i64, (0 : Int)⟩, ⟨0, vSlice k_aArr, l⟩, ⟨3, kVal.v, o2⟩]) (Sub.cons rfl (Sub.cons rfl (Sub.cons rfl (Sub.nil _)))) ?_
  refine t_bloop (β := Nat × Int × (List aArr) × Value) (σ := (List aArr) × Value) (fun x_ => [⟨4, vInt .i64, x_.2.1⟩, ⟨0, vSlice k_aArr, l⟩, ⟨3, kVal.v, x_.2.2.2⟩]) (fun x_ => [rArr x_.2.2.2 59 k_aArr x_.2.2.1]) (fun x_ => pointsmanlaw01_TwinArrs.l1 x_.1 l x_.2.1 x_.2.2.1 = some res1_) (fun x_ => x_.1) (fun x_ => [⟨0, vSlice k_aArr, l⟩, ⟨3, kVal.v, x_.2⟩]) (fun x_ => [rArr x_.2 59 k_aArr x_.1]) (fun x_ => res1_ = x_.1) ?_ ?_ ((((l.length : Int) - (0 : Int)).toNat + 1), (0 : Int), [], o2) hl1_0
  · rintro ⟨k1_, v4_1, w3_1, g3_1⟩ hl1_
    rcases k1_ with _ | k1_
    · exact absurd (show none = some res1_ from hl1_) (by simp)
    replace hl1_ : pointsmanlaw01_TwinArrs.l1 (k1_ + 1) l v4_1 w3_1 = some res1_ := hl1_
    rw [pointsmanlaw01_TwinArrs.l1.eq_2] at hl1_
    show Tr Tryz.prog _ [⟨4, vInt .i64, v4_1⟩, ⟨0, vSlice k_aArr, l⟩, ⟨3, kVal.v, g3_1⟩] [rArr g3_1 59 k_aArr w3_1] _ _
    refine t_seq ?_
    refine t_seq ?_
    refine t_reg ?_
    refine st (l_move (o_t rfl) (lt rfl)) ?_
    refine st (l_move (o_t rfl) (lt rfl)) ?_
    refine st (l_lens (o_t rfl) sl28 (lt rfl)) ?_
    refine st (l_cmp (o_t rfl) (o_t rfl) .lss (lt rfl)) ?_
    refine r_nil (k_seq ?_)
    rcases bt (decide (v4_1 < (l.length : Int))) with hb4 | hb4
    · rw [if_neg (nt hb4)] at hl1_
      refine t_iff (o_t rfl) hb4 ?_
      exact t_exit (k_te <| k_te <| k_be <| k_brk (w3_1, g3_1) (Option.some.inj hl1_).symm (Sub.cons rfl (Sub.cons rfl (Sub.nil _))) rfl)
    · rw [if_pos hb4] at hl1_
      refine t_ift (o_t rfl) hb4 ?_
      refine t_skip (k_seq ?_)
      refine t_seq ?_
      refine t_blk ?_
      refine t_reg ?_
      refine st (l_move (o_t rfl) (lt rfl)) ?_
      refine st (l_move (o_t rfl) (lt rfl)) ?_
      refine st (l_move (o_t rfl) (lt rfl)) ?_
      obtain ⟨t5, h6, hl1_⟩ := bs hl1_
      refine st (l_ia (o_t rfl) (o_t rfl) h6 sl28 sz59 (lt rfl)) ?_
      refine st (l_ld (o_t rfl) ty59 (lt rfl)) ?_
      refine st (l_bslice (.cons (o_t rfl) (.nil)) rfl (Nat.le_of_ble_eq_true rfl) (lt rfl) sl28 zb59 sz59 (lt rfl)) ?_
      rcases bt (appFits 32 w3_1.length 1) with hc7 | hc7
      · rw [if_neg (nt hc7)] at hl1_; cases hl1_
      rw [if_pos hc7] at hl1_
      refine r_app (i := 0) el28 rfl (o_t rfl) (o_t rfl) rfl (by simp) hc7 (lt rfl) (fun o8 => ?_)
      refine st (l_assign (o_t rfl) (lt rfl)) ?_
      refine r_nil (k_bn <| k_seq ?_)
      refine t_reg ?_
      refine st (l_move (o_t rfl) (lt rfl)) ?_
      refine st (l_bin (o_t rfl) (o_i) .add (lt rfl)) ?_
      refine st (l_assign (o_t rfl) (lt rfl)) ?_
      exact r_nil (k_again (k1_, IntKind.wrap .i64 (v4_1 + (1 : Int)), (w3_1 ++ [t5]), o8) hl1_ (Nat.lt_succ_self _) (Sub.cons rfl (Sub.cons rfl (Sub.cons rfl (Sub.nil _)))) rfl)
  · rintro ⟨s1_, g3_1⟩ hs1_
    replace hs1_ : s1_ = res1_ := Eq.symm hs1_
    subst hs1_
    have hp_ := hx1_
    clear hx1_
    show Kx _ [⟨0, vSlice k_aArr, l⟩, ⟨3, kVal.v, g3_1⟩] [rArr g3_1 59 k_aArr s1_] _ _
    refine k_seq ?_
    refine t_seq ?_
    refine t_reg ?_
    refine st (l_move (o_t rfl) (lt rfl)) ?_
    refine st (l_build zr59 (.cons (o_i) fl_aArr_2 ft59_2 (.nil)) rfl stb59 (lt rfl)) ?_
    refine st (l_bslice (.cons (o_t rfl) (.nil)) rfl (Nat.le_of_ble_eq_true rfl) (lt rfl) sl28 zb59 sz59 (lt rfl)) ?_
    rcases bt (appFits 32 s1_.length 1) with hc9 | hc9
    · rw [if_neg (nt hc9)] at hp_; cases hp_
    rw [if_pos hc9] at hp_
    refine r_app (i := 0) el28 rfl (o_t rfl) (o_t rfl) rfl (by simp) hc9 (lt rfl) (fun o10 => ?_)
    refine st (l_move (o_t rfl) (lt rfl)) ?_
    refine st (l_lens (o_t rfl) sl28 (lt rfl)) ?_
    rcases bt (decide (0 ≤ (l.length : Int)) && decide ((l.length : Int) ≤ ((s1_ ++ [(aArr.mk ByteArray.empty 0 (77 : Int))]).length : Int))) with hc11 | hc11
    · rw [if_neg (nt hc11)] at hp_; cases hp_
    rw [if_pos hc11] at hp_
    refine r_slo (i := 0) (o_t rfl) rfl (oo_s (o_t rfl)) hc11 sl28 sz59 (lt rfl) (fun o12 => ?_)
    refine st (l_assign (o_t rfl) (lt rfl)) ?_
    refine r_nil (k_seq ?_)
    cases hp_
    exact t_ret (k_frz (s := 2) (i := 0) rfl rfl <| k_drop <| k_ret () rfl rfl rfl rfl rfl)
-- pointsman/pointsmanlaw01.TwinCode
theorem ok7_0 (x : aCode) (y_ : aCode) (hp_ : pointsmanlaw01_TwinCode x = some y_) : FC Tryz.prog 7 [⟨(k_aCode).v, x⟩] [] (fun v_ : Value => .ret k_aCodeV0_5_6.v (aCodeV0_5_6.mk (tg v_ 0) y_.Heads y_.Meta y_.States y_.Main (tg v_ 1) (tg v_ 2) y_.Emits y_.Arrays)) (fun v_ => [rArr (tg v_ 0) 3 (kInt .i64) y_.Slots, rArr (tg v_ 1) 41 k_aAct y_.Acts, rArr (tg v_ 2) 39 k_aTable y_.Tables]) := by
  unfold pointsmanlaw01_TwinCode at hp_
  refine fc_of 31 Tryz.func7 rfl fn7 rfl (Nat.le_of_ble_eq_true rfl) fun I_ w_ F_ => ?_
  refine t_seq ?_
  refine t_reg ?_
  refine st (l_box (o_t rfl) (lt rfl)) ?_
  refine r_alloc zr30_aCodeV0_5_6 (lt rfl) (fun b1 => ?_)
  refine r_nil (k_seq ?_)
  refine t_seq ?_
  obtain ⟨t3, h4, hp_⟩ := bs hp_
  obtain ⟨t7, h8, hp_⟩ := bs hp_
  obtain ⟨t9, h10, hp_⟩ := bs hp_
  obtain ⟨t11, h12, hp_⟩ := bs hp_
  obtain ⟨t13, h14, hp_⟩ := bs hp_
  obtain ⟨t15, h16, hp_⟩ := bs hp_
  obtain ⟨t19, h20, hp_⟩ := bs hp_
  obtain ⟨t23, h24, hp_⟩ := bs hp_
  obtain ⟨t25, h26, hp_⟩ := bs hp_
  refine t_draw [(0, fun gs_ => some ⟨3, vPtr (kSlice (kInt .i64)), x.Slots⟩), (0, fun gs_ => some ⟨4, vSlice (kInt .i64), x.Slots⟩), (1, fun gs_ => some ⟨5, kVal.v, (gg gs_ 0)⟩), (0, fun gs_ => some ⟨6, vPtr (kSlice k_aHead), x.Heads⟩), (0, fun gs_ => some ⟨7, vSlice k_aHead, x.Heads⟩), (1, fun gs_ => some ⟨8, vSlice k_aHead, t7⟩), (0, fun gs_ => some ⟨9, vPtr (kSlice (kInt .i64)), x.Meta⟩), (0, fun gs_ => some ⟨10, vSlice (kInt .i64), x.Meta⟩), (1, fun gs_ => some ⟨11, vSlice (kInt .i64), t9⟩), (0, fun gs_ => some ⟨12, vPtr (kSlice k_aNode), x.States⟩), (0, fun gs_ => some ⟨13, vSlice k_aNode, x.States⟩), (1, fun gs_ => some ⟨14, vSlice k_aNode, t11⟩), (0, fun gs_ => some ⟨15, vPtr (kSlice k_aIns), x.Main⟩), (0, fun gs_ => some ⟨16, vSlice k_aIns, x.Main⟩), (1, fun gs_ => some ⟨17, vSlice k_aIns, t13⟩), (0, fun gs_ => some ⟨18, vPtr (kSlice k_aAct), x.Acts⟩), (0, fun gs_ => some ⟨19, vSlice k_aAct, x.Acts⟩), (2, fun gs_ => some ⟨20, kVal.v, (gg gs_ 1)⟩), (0, fun gs_ => some ⟨21, vPtr (kSlice k_aTable), x.Tables⟩), (0, fun gs_ => some ⟨22, vSlice k_aTable, x.Tables⟩), (3, fun gs_ => some ⟨23, kVal.v, (gg gs_ 2)⟩), (0, fun gs_ => some ⟨24, vPtr (kSlice (kInt .i64)), x.Emits⟩), (0, fun gs_ => some ⟨25, vSlice (kInt .i64), x.Emits⟩), (3, fun gs_ => some ⟨26, vSlice (kInt .i64), t23⟩), (0, fun gs_ => some ⟨27, vPtr (kSlice k_aArr), x.Arrays⟩), (0, fun gs_ => some ⟨28, vSlice k_aArr, x.Arrays⟩), (3, fun gs_ => some ⟨29, vSlice k_aArr, t25⟩), (3, fun gs_ => some ⟨30, (k_aCodeV0_5_6).v, (aCodeV0_5_6.mk (gg gs_ 0) t7 t9 t11 t13 (gg gs_ 1) (gg gs_ 2) t23 t25)⟩), (4, fun gs_ => none)] mixed rfl rfl (fun gs_ => [] ++ ph gs_ [fun gs_ => [rBox b1 30 k_aCodeV0_5_6 (aCodeV0_5_6.mk (.slice none 0 0) [] [] [] [] (.slice none 0 0) (.slice none 0 0) [] [])], fun gs_ => [rBox b1 30 k_aCodeV0_5_6 (aCodeV0_5_6.mk (.slice none 0 0) [] [] [] [] (.slice none 0 0) (.slice none 0 0) [] []), rArr (gg gs_ 0) 3 (kInt .i64) t3], fun gs_ => [rBox b1 30 k_aCodeV0_5_6 (aCodeV0_5_6.mk (.slice none 0 0) [] [] [] [] (.slice none 0 0) (.slice none 0 0) [] []), rArr (gg gs_ 0) 3 (kInt .i64) t3, rArr (gg gs_ 1) 41 k_aAct t15], fun gs_ => [rBox b1 30 k_aCodeV0_5_6 (aCodeV0_5_6.mk (.slice none 0 0) [] [] [] [] (.slice none 0 0) (.slice none 0 0) [] []), rArr (gg gs_ 0) 3 (kInt .i64) t3, rArr (gg gs_ 1) 41 k_aAct t15, rArr (gg gs_ 2) 39 k_aTable t19], fun gs_ => [rBox b1 30 k_aCodeV0_5_6 (aCodeV0_5_6.mk (gg gs_ 0) t7 t9 t11 t13 (gg gs_ 1) (gg gs_ 2) t23 t25), rArr (gg gs_ 0) 3 (kInt .i64) t3, rArr (gg gs_ 1) 41 k_aAct t15, rArr (gg gs_ 2) 39 k_aTable t19]]) [2, 17, 20, 28] rfl (.x (f := fun gs_ => ⟨3, vPtr (kSlice (kInt .i64)), x.Slots⟩) 0 (fun gs_ => [⟨1, vPtr k_aCode, x⟩]) rfl (fun gs_ => l_fa (o_t rfl) fl_aCode_0 fa30_0 (lt rfl)) (fun gs_ => .b rfl rfl (.nil)) .n (fun _ => rfl) rfl (fun _ _ _ => rfl) (.x (f := fun gs_ => ⟨4, vSlice (kInt .i64), x.Slots⟩) 0 (fun gs_ => [⟨3, vPtr (kSlice (kInt .i64)), x.Slots⟩]) rfl (fun gs_ => l_ld (o_t rfl) ty22 (lt rfl)) (fun gs_ => .d 0 rfl rfl (.nil)) .n (fun _ => rfl) rfl (fun _ _ _ => rfl) (.e (f := fun gs_ => some ⟨5, kVal.v, (gg gs_ 0)⟩) 0 (fun gs_ => [⟨4, vSlice (kInt .i64), x.Slots⟩]) rfl (fun gs_ hg_ => by obtain rfl := len0 hg_; show LocX _ _ _ [rBox b1 30 k_aCodeV0_5_6 (aCodeV0_5_6.mk (.slice none 0 0) [] [] [] [] (.slice none 0 0) (.slice none 0 0) [] [])] _ (fun gh5_ => some ⟨5, kVal.v, gh5_⟩) (fun gh5_ => [rBox b1 30 k_aCodeV0_5_6 (aCodeV0_5_6.mk (.slice none 0 0) [] [] [] [] (.slice none 0 0) (.slice none 0 0) [] []), rArr gh5_ 3 (kInt .i64) t3]); exact e_callo (ok30_0 x.Slots _ h4) (.cons (o_t rfl) (.nil)) (fun _ => rfl) pm_nil (fun _ => pn_end) (lt rfl)) (fun gs_ => .d 1 rfl rfl (.nil)) .n (fun _ => rfl) rfl (by intro gs_ v_ h_; simp only [gg_app (show 0 < gs_.length by omega)]) (.x (f := fun gs_ => ⟨6, vPtr (kSlice k_aHead), x.Heads⟩) 0 (fun gs_ => [⟨1, vPtr k_aCode, x⟩]) rfl (fun gs_ => l_fa (o_t rfl) fl_aCode_1 fa30_1 (lt rfl)) (fun gs_ => .b rfl rfl (.nil)) .n (fun _ => rfl) rfl (fun _ _ _ => rfl) (.x (f := fun gs_ => ⟨7, vSlice k_aHead, x.Heads⟩) 0 (fun gs_ => [⟨6, vPtr (kSlice k_aHead), x.Heads⟩]) rfl (fun gs_ => l_ld (o_t rfl) ty23 (lt rfl)) (fun gs_ => .d 3 rfl rfl (.nil)) .n (fun _ => rfl) rfl (fun _ _ _ => rfl) (.x (f := fun gs_ => ⟨8, vSlice k_aHead, t7⟩) 1 (fun gs_ => [⟨7, vSlice k_aHead, x.Heads⟩]) rfl (fun gs_ => l_call (ok31 x.Heads _ h8) (.cons (o_t rfl) (.nil)) (lt rfl)) (fun gs_ => .d 4 rfl rfl (.nil)) .n (fun _ => rfl) rfl (fun _ _ _ => rfl) (.x (f := fun gs_ => ⟨9, vPtr (kSlice (kInt .i64)), x.Meta⟩) 0 (fun gs_ => [⟨1, vPtr k_aCode, x⟩]) rfl (fun gs_ => l_fa (o_t rfl) fl_aCode_2 fa30_2 (lt rfl)) (fun gs_ => .b rfl rfl (.nil)) .n (fun _ => rfl) rfl (fun _ _ _ => rfl) (.x (f := fun gs_ => ⟨10, vSlice (kInt .i64), x.Meta⟩) 0 (fun gs_ => [⟨9, vPtr (kSlice (kInt .i64)), x.Meta⟩]) rfl (fun gs_ => l_ld (o_t rfl) ty22 (lt rfl)) (fun gs_ => .d 6 rfl rfl (.nil)) .n (fun _ => rfl) rfl (fun _ _ _ => rfl) (.x (f := fun gs_ => ⟨11, vSlice (kInt .i64), t9⟩) 1 (fun gs_ => [⟨10, vSlice (kInt .i64), x.Meta⟩]) rfl (fun gs_ => l_call (ok30 x.Meta _ h10) (.cons (o_t rfl) (.nil)) (lt rfl)) (fun gs_ => .d 7 rfl rfl (.nil)) .n (fun _ => rfl) rfl (fun _ _ _ => rfl) (.x (f := fun gs_ => ⟨12, vPtr (kSlice k_aNode), x.States⟩) 0 (fun gs_ => [⟨1, vPtr k_aCode, x⟩]) rfl (fun gs_ => l_fa (o_t rfl) fl_aCode_3 fa30_3 (lt rfl)) (fun gs_ => .b rfl rfl (.nil)) .n (fun _ => rfl) rfl (fun _ _ _ => rfl) (.x (f := fun gs_ => ⟨13, vSlice k_aNode, x.States⟩) 0 (fun gs_ => [⟨12, vPtr (kSlice k_aNode), x.States⟩]) rfl (fun gs_ => l_ld (o_t rfl) ty24 (lt rfl)) (fun gs_ => .d 9 rfl rfl (.nil)) .n (fun _ => rfl) rfl (fun _ _ _ => rfl) (.x (f := fun gs_ => ⟨14, vSlice k_aNode, t11⟩) 1 (fun gs_ => [⟨13, vSlice k_aNode, x.States⟩]) rfl (fun gs_ => l_call (ok32 x.States _ h12) (.cons (o_t rfl) (.nil)) (lt rfl)) (fun gs_ => .d 10 rfl rfl (.nil)) .n (fun _ => rfl) rfl (fun _ _ _ => rfl) (.x (f := fun gs_ => ⟨15, vPtr (kSlice k_aIns), x.Main⟩) 0 (fun gs_ => [⟨1, vPtr k_aCode, x⟩]) rfl (fun gs_ => l_fa (o_t rfl) fl_aCode_4 fa30_4 (lt rfl)) (fun gs_ => .b rfl rfl (.nil)) .n (fun _ => rfl) rfl (fun _ _ _ => rfl) (.x (f := fun gs_ => ⟨16, vSlice k_aIns, x.Main⟩) 0 (fun gs_ => [⟨15, vPtr (kSlice k_aIns), x.Main⟩]) rfl (fun gs_ => l_ld (o_t rfl) ty25 (lt rfl)) (fun gs_ => .d 12 rfl rfl (.nil)) .n (fun _ => rfl) rfl (fun _ _ _ => rfl) (.x (f := fun gs_ => ⟨17, vSlice k_aIns, t13⟩) 1 (fun gs_ => [⟨16, vSlice k_aIns, x.Main⟩]) rfl (fun gs_ => l_call (ok33 x.Main _ h14) (.cons (o_t rfl) (.nil)) (lt rfl)) (fun gs_ => .d 13 rfl rfl (.nil)) .n (fun _ => rfl) rfl (fun _ _ _ => rfl) (.x (f := fun gs_ => ⟨18, vPtr (kSlice k_aAct), x.Acts⟩) 0 (fun gs_ => [⟨1, vPtr k_aCode, x⟩]) rfl (fun gs_ => l_fa (o_t rfl) fl_aCode_5 fa30_5 (lt rfl)) (fun gs_ => .b rfl rfl (.nil)) .n (fun _ => rfl) rfl (fun _ _ _ => rfl) (.x (f := fun gs_ => ⟨19, vSlice k_aAct, x.Acts⟩) 0 (fun gs_ => [⟨18, vPtr (kSlice k_aAct), x.Acts⟩]) rfl (fun gs_ => l_ld (o_t rfl) ty26 (lt rfl)) (fun gs_ => .d 15 rfl rfl (.nil)) .n (fun _ => rfl) rfl (fun _ _ _ => rfl) (.e (f := fun gs_ => some ⟨20, kVal.v, (gg gs_ 1)⟩) 1 (fun gs_ => [⟨19, vSlice k_aAct, x.Acts⟩]) rfl (fun gs_ hg_ => by obtain ⟨gh5_, rfl⟩ := len1 hg_; show LocX _ _ _ [rBox b1 30 k_aCodeV0_5_6 (aCodeV0_5_6.mk (.slice none 0 0) [] [] [] [] (.slice none 0 0) (.slice none 0 0) [] []), rArr gh5_ 3 (kInt .i64) t3] _ (fun gh17_ => some ⟨20, kVal.v, gh17_⟩) (fun gh17_ => [rBox b1 30 k_aCodeV0_5_6 (aCodeV0_5_6.mk (.slice none 0 0) [] [] [] [] (.slice none 0 0) (.slice none 0 0) [] []), rArr gh5_ 3 (kInt .i64) t3, rArr gh17_ 41 k_aAct t15]); exact e_callo (ok34_0 x.Acts _ h16) (.cons (o_t rfl) (.nil)) (fun _ => rfl) pm_nil (fun _ => pn_end) (lt rfl)) (fun gs_ => .d 16 rfl rfl (.nil)) .n (fun _ => rfl) rfl (by intro gs_ v_ h_; simp only [gg_app (show 1 < gs_.length by omega)]) (.x (f := fun gs_ => ⟨21, vPtr (kSlice k_aTable), x.Tables⟩) 0 (fun gs_ => [⟨1, vPtr k_aCode, x⟩]) rfl (fun gs_ => l_fa (o_t rfl) fl_aCode_6 fa30_6 (lt rfl)) (fun gs_ => .b rfl rfl (.nil)) .n (fun _ => rfl) rfl (fun _ _ _ => rfl) (.x (f := fun gs_ => ⟨22, vSlice k_aTable, x.Tables⟩) 0 (fun gs_ => [⟨21, vPtr (kSlice k_aTable), x.Tables⟩]) rfl (fun gs_ => l_ld (o_t rfl) ty27 (lt rfl)) (fun gs_ => .d 18 rfl rfl (.nil)) .n (fun _ => rfl) rfl (fun _ _ _ => rfl) (.e (f := fun gs_ => some ⟨23, kVal.v, (gg gs_ 2)⟩) 2 (fun gs_ => [⟨22, vSlice k_aTable, x.Tables⟩]) rfl (fun gs_ hg_ => by obtain ⟨gh5_, gh17_, rfl⟩ := len2 hg_; show LocX _ _ _ [rBox b1 30 k_aCodeV0_5_6 (aCodeV0_5_6.mk (.slice none 0 0) [] [] [] [] (.slice none 0 0) (.slice none 0 0) [] []), rArr gh5_ 3 (kInt .i64) t3, rArr gh17_ 41 k_aAct t15] _ (fun gh21_ => some ⟨23, kVal.v, gh21_⟩) (fun gh21_ => [rBox b1 30 k_aCodeV0_5_6 (aCodeV0_5_6.mk (.slice none 0 0) [] [] [] [] (.slice none 0 0) (.slice none 0 0) [] []), rArr gh5_ 3 (kInt .i64) t3, rArr gh17_ 41 k_aAct t15, rArr gh21_ 39 k_aTable t19]); exact e_callo (ok35_0 x.Tables _ h20) (.cons (o_t rfl) (.nil)) (fun _ => rfl) pm_nil (fun _ => pn_end) (lt rfl)) (fun gs_ => .d 19 rfl rfl (.nil)) .n (fun _ => rfl) rfl (by intro gs_ v_ h_; simp only [gg_app (show 2 < gs_.length by omega)]) (.x (f := fun gs_ => ⟨24, vPtr (kSlice (kInt .i64)), x.Emits⟩) 0 (fun gs_ => [⟨1, vPtr k_aCode, x⟩]) rfl (fun gs_ => l_fa (o_t rfl) fl_aCode_7 fa30_7 (lt rfl)) (fun gs_ => .b rfl rfl (.nil)) .n (fun _ => rfl) rfl (fun _ _ _ => rfl) (.x (f := fun gs_ => ⟨25, vSlice (kInt .i64), x.Emits⟩) 0 (fun gs_ => [⟨24, vPtr (kSlice (kInt .i64)), x.Emits⟩]) rfl (fun gs_ => l_ld (o_t rfl) ty22 (lt rfl)) (fun gs_ => .d 21 rfl rfl (.nil)) .n (fun _ => rfl) rfl (fun _ _ _ => rfl) (.x (f := fun gs_ => ⟨26, vSlice (kInt .i64), t23⟩) 3 (fun gs_ => [⟨25, vSlice (kInt .i64), x.Emits⟩]) rfl (fun gs_ => l_call (ok30 x.Emits _ h24) (.cons (o_t rfl) (.nil)) (lt rfl)) (fun gs_ => .d 22 rfl rfl (.nil)) .n (fun _ => rfl) rfl (fun _ _ _ => rfl) (.x (f := fun gs_ => ⟨27, vPtr (kSlice k_aArr), x.Arrays⟩) 0 (fun gs_ => [⟨1, vPtr k_aCode, x⟩]) rfl (fun gs_ => l_fa (o_t rfl) fl_aCode_8 fa30_8 (lt rfl)) (fun gs_ => .b rfl rfl (.nil)) .n (fun _ => rfl) rfl (fun _ _ _ => rfl) (.x (f := fun gs_ => ⟨28, vSlice k_aArr, x.Arrays⟩) 0 (fun gs_ => [⟨27, vPtr (kSlice k_aArr), x.Arrays⟩]) rfl (fun gs_ => l_ld (o_t rfl) ty28 (lt rfl)) (fun gs_ => .d 24 rfl rfl (.nil)) .n (fun _ => rfl) rfl (fun _ _ _ => rfl) (.x (f := fun gs_ => ⟨29, vSlice k_aArr, t25⟩) 3 (fun gs_ => [⟨28, vSlice k_aArr, x.Arrays⟩]) rfl (fun gs_ => l_call (ok36 x.Arrays _ h26) (.cons (o_t rfl) (.nil)) (lt rfl)) (fun gs_ => .d 25 rfl rfl (.nil)) .n (fun _ => rfl) rfl (fun _ _ _ => rfl) (.x (f := fun gs_ => ⟨30, (k_aCodeV0_5_6).v, (aCodeV0_5_6.mk (gg gs_ 0) t7 t9 t11 t13 (gg gs_ 1) (gg gs_ 2) t23 t25)⟩) 3 (fun gs_ => [⟨5, kVal.v, (gg gs_ 0)⟩, ⟨8, vSlice k_aHead, t7⟩, ⟨11, vSlice (kInt .i64), t9⟩, ⟨14, vSlice k_aNode, t11⟩, ⟨17, vSlice k_aIns, t13⟩, ⟨20, kVal.v, (gg gs_ 1)⟩, ⟨23, kVal.v, (gg gs_ 2)⟩, ⟨26, vSlice (kInt .i64), t23⟩, ⟨29, vSlice k_aArr, t25⟩]) rfl (fun gs_ => l_build zr30_aCodeV0_5_6 (.cons (o_t rfl) fl_aCodeV0_5_6_0 ft30_0 (.cons (o_t rfl) fl_aCodeV0_5_6_1 ft30_1 (.cons (o_t rfl) fl_aCodeV0_5_6_2 ft30_2 (.cons (o_t rfl) fl_aCodeV0_5_6_3 ft30_3 (.cons (o_t rfl) fl_aCodeV0_5_6_4 ft30_4 (.cons (o_t rfl) fl_aCodeV0_5_6_5 ft30_5 (.cons (o_t rfl) fl_aCodeV0_5_6_6 ft30_6 (.cons (o_t rfl) fl_aCodeV0_5_6_7 ft30_7 (.cons (o_t rfl) fl_aCodeV0_5_6_8 ft30_8 (.nil)))))))))) rfl stb30 (lt rfl)) (fun gs_ => .d 2 rfl rfl (.d 5 rfl rfl (.d 8 rfl rfl (.d 11 rfl rfl (.d 14 rfl rfl (.d 17 rfl rfl (.d 20 rfl rfl (.d 23 rfl rfl (.d 26 rfl rfl (.nil)))))))))) .n (fun _ => rfl) rfl (by intro gs_ v_ h_; simp only [gg_app (show 0 < gs_.length by omega), gg_app (show 1 < gs_.length by omega), gg_app (show 2 < gs_.length by omega)]) (.e (f := fun gs_ => none) 3 (fun gs_ => [⟨2, vLoc, (b1, 0)⟩, ⟨30, (k_aCodeV0_5_6).v, (aCodeV0_5_6.mk (gg gs_ 0) t7 t9 t11 t13 (gg gs_ 1) (gg gs_ 2) t23 t25)⟩]) rfl (fun gs_ hg_ => by obtain ⟨gh5_, gh17_, gh21_, rfl⟩ := len3 hg_; show LocX _ _ _ [rBox b1 30 k_aCodeV0_5_6 (aCodeV0_5_6.mk (.slice none 0 0) [] [] [] [] (.slice none 0 0) (.slice none 0 0) [] []), rArr gh5_ 3 (kInt .i64) t3, rArr gh17_ 41 k_aAct t15, rArr gh21_ 39 k_aTable t19] _ (fun gh903_ => none) (fun gh903_ => [rBox b1 30 k_aCodeV0_5_6 (aCodeV0_5_6.mk gh5_ t7 t9 t11 t13 gh17_ gh21_ t23 t25), rArr gh5_ 3 (kInt .i64) t3, rArr gh17_ 41 k_aAct t15, rArr gh21_ 39 k_aTable t19]); exact e_stm (i := 0) (o_t rfl) (o_t rfl) rfl (Fld.refl _) sz30_aCodeV0_5_6) (fun gs_ => .b rfl rfl (.d 27 rfl rfl (.nil))) .n (fun _ => rfl) rfl (fun _ _ _ => rfl) (.nil)))))))))))))))))))))))))))))) (fun gs_ hgs_ => ?_)
  obtain ⟨gh5_, gh17_, gh21_, gh903_, rfl⟩ := len4 hgs_
  show Kx _ _ [rBox b1 30 k_aCodeV0_5_6 (aCodeV0_5_6.mk gh5_ t7 t9 t11 t13 gh17_ gh21_ t23 t25), rArr gh5_ 3 (kInt .i64) t3, rArr gh17_ 41 k_aAct t15, rArr gh21_ 39 k_aTable t19] _ _
  refine k_seq ?_
  cases hp_
  exact t_ret (k_frzb (s := 2) (i := 0) rfl rfl <| k_keep (pm_take 1 rfl (pm_take 1 rfl (pm_take 1 rfl pm_nil))) <| k_retc (.tuple #[gh5_, gh17_, gh21_]) rfl ty30_aCodeV0_5_6 rfl rfl rfl rfl)
-- pointsman/pointsmanlaw12.bare
theorem ok29 (l : List aIns) (y_ : aCode) (hp_ : pointsmanlaw12_bare l = some y_) : FP Tryz.prog 29 [⟨vSlice k_aIns, l⟩] ((k_aCode).v) y_ := by
  unfold pointsmanlaw12_bare at hp_
  refine fc_of 7 Tryz.func29 rfl fn29 rfl (Nat.le_of_ble_eq_true rfl) fun I_ w_ F_ => ?_
  refine t_seq ?_
  refine t_reg ?_
  refine r_alloc zr30 (lt rfl) (fun b1 => ?_)
  refine r_nil (k_seq ?_)
  refine t_seq ?_
  refine t_reg ?_
  refine st (l_bslice (.cons (o_i) (.cons (o_i) (.nil))) rfl (Nat.le_of_ble_eq_true rfl) (lt rfl) sl22 zb3 sz3 (lt rfl)) ?_
  refine st (l_bslice (.cons (o_i) (.cons (o_i) (.nil))) rfl (Nat.le_of_ble_eq_true rfl) (lt rfl) sl22 zb3 sz3 (lt rfl)) ?_
  refine st (l_move (o_t rfl) (lt rfl)) ?_
  refine st (l_build zr30 (.cons (o_t rfl) fl_aCode_0 ft30_0 (.cons (o_t rfl) fl_aCode_2 ft30_2 (.cons (o_t rfl) fl_aCode_4 ft30_4 (.nil)))) rfl stb30 (lt rfl)) ?_
  refine r_stm (i := 0) (o_t rfl) (o_t rfl) rfl (Fld.refl _) sz30 ?_
  refine r_nil (k_seq ?_)
  cases hp_
  exact t_ret (k_frzb (s := 2) (i := 0) rfl rfl <| k_drop <| k_retc () rfl ty30 rfl rfl rfl rfl)
-- pointsman/pointsmanlaw12.lives
theorem ok6  (y_ : Bool) (hp_ : pointsmanlaw12_lives  = some y_) : FP Tryz.prog 6 [] vBool y_ := by
  unfold pointsmanlaw12_lives at hp_
  refine fc_of 32 Tryz.func6 rfl fn6 rfl (Nat.le_of_ble_eq_true rfl) fun I_ w_ F_ => ?_
  refine t_seq ?_
  refine t_reg ?_
  refine st (l_assign (o_b) (lt rfl)) ?_
  refine r_nil (k_seq ?_)
  refine t_seq ?_
  refine t_reg ?_
  refine st (l_build zr30 (.nil) rfl stb30 (lt rfl)) ?_
  obtain ⟨t1, h2, hp_⟩ := bs hp_
  refine st (l_call (ok5 (aCode.mk [] [] [] [] [] [] [] [] []) _ h2) (.cons (o_t rfl) (.nil)) (lt rfl)) ?_
  refine st (l_cmp (o_t rfl) (o_i) .eql (lt rfl)) ?_
  refine st (l_move (o_t rfl) (lt rfl)) ?_
  rcases bt (t1 == (8 : Int)) with hb3 | hb3
  · rw [if_neg (nt hb3)] at hp_
    refine g_n ⟨4, vBool, t1 == (8 : Int)⟩ rfl rfl (noy_b (b := true) hb3) (lt rfl) ?_
    refine g_n ⟨4, vBool, t1 == (8 : Int)⟩ rfl rfl (noy_b (b := true) hb3) (lt rfl) ?_
    refine g_n ⟨4, vBool, t1 == (8 : Int)⟩ rfl rfl (noy_b (b := true) hb3) (lt rfl) ?_
    refine st (l_pickf (o_t rfl) hb3 (o_b) (lt rfl)) ?_
    refine st (l_move (o_t rfl) (lt rfl)) ?_
    refine g_n ⟨9, vBool, false⟩ rfl rfl (noy_b (b := true) rfl) (lt rfl) ?_
    refine g_n ⟨9, vBool, false⟩ rfl rfl (noy_b (b := true) rfl) (lt rfl) ?_
    refine g_n ⟨9, vBool, false⟩ rfl rfl (noy_b (b := true) rfl) (lt rfl) ?_
    refine g_n ⟨9, vBool, false⟩ rfl rfl (noy_b (b := true) rfl) (lt rfl) ?_
    refine g_n ⟨9, vBool, false⟩ rfl rfl (noy_b (b := true) rfl) (lt rfl) ?_
    refine g_n ⟨9, vBool, false⟩ rfl rfl (noy_b (b := true) rfl) (lt rfl) ?_
    refine st (l_pickf (o_t rfl) rfl (o_b) (lt rfl)) ?_
    refine st (l_move (o_t rfl) (lt rfl)) ?_
    refine g_n ⟨17, vBool, false⟩ rfl rfl (noy_b (b := true) rfl) (lt rfl) ?_
    refine g_n ⟨17, vBool, false⟩ rfl rfl (noy_b (b := true) rfl) (lt rfl) ?_
    refine g_n ⟨17, vBool, false⟩ rfl rfl (noy_b (b := true) rfl) (lt rfl) ?_
    refine g_n ⟨17, vBool, false⟩ rfl rfl (noy_b (b := true) rfl) (lt rfl) ?_
    refine g_n ⟨17, vBool, false⟩ rfl rfl (noy_b (b := true) rfl) (lt rfl) ?_
    refine g_n ⟨17, vBool, false⟩ rfl rfl (noy_b (b := true) rfl) (lt rfl) ?_
    refine st (l_pickf (o_t rfl) rfl (o_b) (lt rfl)) ?_
    refine st (l_move (o_t rfl) (lt rfl)) ?_
    refine g_n ⟨25, vBool, false⟩ rfl rfl (noy_b (b := true) rfl) (lt rfl) ?_
    refine g_n ⟨25, vBool, false⟩ rfl rfl (noy_b (b := true) rfl) (lt rfl) ?_
    refine g_n ⟨25, vBool, false⟩ rfl rfl (noy_b (b := true) rfl) (lt rfl) ?_
    refine g_n ⟨25, vBool, false⟩ rfl rfl (noy_b (b := true) rfl) (lt rfl) ?_
    refine g_n ⟨25, vBool, false⟩ rfl rfl (noy_b (b := true) rfl) (lt rfl) ?_
    refine st (l_pickf (o_t rfl) rfl (o_b) (lt rfl)) ?_
    refine st (l_assign (o_t rfl) (lt rfl)) ?_
    refine r_nil (k_seq ?_)
    cases hp_
    exact t_ret (k_ret () rfl rfl rfl rfl rfl)
  · rw [if_pos hb3] at hp_
    refine g_t rfl rfl hb3 ?_
    obtain ⟨t4, h5, hp_⟩ := bs hp_
    refine st (l_call (ok29 [] _ h5) (.cons (o_nil) (.nil)) (lt rfl)) ?_
    refine g_t rfl rfl hb3 ?_
    obtain ⟨t6, h7, hp_⟩ := bs hp_
    refine st (l_call (ok5 t4 _ h7) (.cons (o_t rfl) (.nil)) (lt rfl)) ?_
    refine g_t rfl rfl hb3 ?_
    refine st (l_cmp (o_t rfl) (o_i) .eql (lt rfl)) ?_
    refine st (l_pickt (o_t rfl) hb3 (o_t rfl) (lt rfl)) ?_
    refine st (l_move (o_t rfl) (lt rfl)) ?_
    rcases bt (t6 == (0 : Int)) with hb8 | hb8
    · rw [if_neg (nt hb8)] at hp_
      refine g_n ⟨9, vBool, t6 == (0 : Int)⟩ rfl rfl (noy_b (b := true) hb8) (lt rfl) ?_
      refine g_n ⟨9, vBool, t6 == (0 : Int)⟩ rfl rfl (noy_b (b := true) hb8) (lt rfl) ?_
      refine g_n ⟨9, vBool, t6 == (0 : Int)⟩ rfl rfl (noy_b (b := true) hb8) (lt rfl) ?_
      refine g_n ⟨9, vBool, t6 == (0 : Int)⟩ rfl rfl (noy_b (b := true) hb8) (lt rfl) ?_
      refine g_n ⟨9, vBool, t6 == (0 : Int)⟩ rfl rfl (noy_b (b := true) hb8) (lt rfl) ?_
      refine g_n ⟨9, vBool, t6 == (0 : Int)⟩ rfl rfl (noy_b (b := true) hb8) (lt rfl) ?_
      refine st (l_pickf (o_t rfl) hb8 (o_b) (lt rfl)) ?_
      refine st (l_move (o_t rfl) (lt rfl)) ?_
      refine g_n ⟨17, vBool, false⟩ rfl rfl (noy_b (b := true) rfl) (lt rfl) ?_
      refine g_n ⟨17, vBool, false⟩ rfl rfl (noy_b (b := true) rfl) (lt rfl) ?_
      refine g_n ⟨17, vBool, false⟩ rfl rfl (noy_b (b := true) rfl) (lt rfl) ?_
      refine g_n ⟨17, vBool, false⟩ rfl rfl (noy_b (b := true) rfl) (lt rfl) ?_
      refine g_n ⟨17, vBool, false⟩ rfl rfl (noy_b (b := true) rfl) (lt rfl) ?_
      refine g_n ⟨17, vBool, false⟩ rfl rfl (noy_b (b := true) rfl) (lt rfl) ?_
      refine st (l_pickf (o_t rfl) rfl (o_b) (lt rfl)) ?_
      refine st (l_move (o_t rfl) (lt rfl)) ?_
      refine g_n ⟨25, vBool, false⟩ rfl rfl (noy_b (b := true) rfl) (lt rfl) ?_
      refine g_n ⟨25, vBool, false⟩ rfl rfl (noy_b (b := true) rfl) (lt rfl) ?_
      refine g_n ⟨25, vBool, false⟩ rfl rfl (noy_b (b := true) rfl) (lt rfl) ?_
      refine g_n ⟨25, vBool, false⟩ rfl rfl (noy_b (b := true) rfl) (lt rfl) ?_
      refine g_n ⟨25, vBool, false⟩ rfl rfl (noy_b (b := true) rfl) (lt rfl) ?_
      refine st (l_pickf (o_t rfl) rfl (o_b) (lt rfl)) ?_
      refine st (l_assign (o_t rfl) (lt rfl)) ?_
      refine r_nil (k_seq ?_)
      cases hp_
      exact t_ret (k_ret () rfl rfl rfl rfl rfl)
    · rw [if_pos hb8] at hp_
      refine g_t rfl rfl hb8 ?_
      refine st (l_build zr72 (.cons (o_i) fl_aBits_0 ft72_0 (.cons (o_i) fl_aBits_2 ft72_2 (.nil))) rfl stb72 (lt rfl)) ?_
      refine g_t rfl rfl hb8 ?_
      refine st (l_build zr75 (.cons (o_i) fl_aIns_0 ft75_0 (.cons (o_t rfl) fl_aIns_7 ft75_7 (.nil))) rfl stb75 (lt rfl)) ?_
      refine g_t rfl rfl hb8 ?_
      refine st (l_bslice (.cons (o_t rfl) (.nil)) rfl (Nat.le_of_ble_eq_true rfl) (lt rfl) sl25 zb75 sz75 (lt rfl)) ?_
      refine g_t rfl rfl hb8 ?_
      obtain ⟨t9, h10, hp_⟩ := bs hp_
      refine st (l_call (ok29 [(aIns.mk (1 : Int) 0 0 0 0 0 [] (aBits.mk (16 : Int) 0 (5 : Int)) 0)] _ h10) (.cons (o_t rfl) (.nil)) (lt rfl)) ?_
      refine g_t rfl rfl hb8 ?_
      obtain ⟨t11, h12, hp_⟩ := bs hp_
      refine st (l_call (ok5 t9 _ h12) (.cons (o_t rfl) (.nil)) (lt rfl)) ?_
      refine g_t rfl rfl hb8 ?_
      refine st (l_cmp (o_t rfl) (o_i) .eql (lt rfl)) ?_
      refine st (l_pickt (o_t rfl) hb8 (o_t rfl) (lt rfl)) ?_
      refine st (l_move (o_t rfl) (lt rfl)) ?_
      rcases bt (t11 == (0 : Int)) with hb13 | hb13
      · rw [if_neg (nt hb13)] at hp_
        refine g_n ⟨17, vBool, t11 == (0 : Int)⟩ rfl rfl (noy_b (b := true) hb13) (lt rfl) ?_
        refine g_n ⟨17, vBool, t11 == (0 : Int)⟩ rfl rfl (noy_b (b := true) hb13) (lt rfl) ?_
        refine g_n ⟨17, vBool, t11 == (0 : Int)⟩ rfl rfl (noy_b (b := true) hb13) (lt rfl) ?_
        refine g_n ⟨17, vBool, t11 == (0 : Int)⟩ rfl rfl (noy_b (b := true) hb13) (lt rfl) ?_
        refine g_n ⟨17, vBool, t11 == (0 : Int)⟩ rfl rfl (noy_b (b := true) hb13) (lt rfl) ?_
        refine g_n ⟨17, vBool, t11 == (0 : Int)⟩ rfl rfl (noy_b (b := true) hb13) (lt rfl) ?_
        refine st (l_pickf (o_t rfl) hb13 (o_b) (lt rfl)) ?_
        refine st (l_move (o_t rfl) (lt rfl)) ?_
        refine g_n ⟨25, vBool, false⟩ rfl rfl (noy_b (b := true) rfl) (lt rfl) ?_
        refine g_n ⟨25, vBool, false⟩ rfl rfl (noy_b (b := true) rfl) (lt rfl) ?_
        refine g_n ⟨25, vBool, false⟩ rfl rfl (noy_b (b := true) rfl) (lt rfl) ?_
        refine g_n ⟨25, vBool, false⟩ rfl rfl (noy_b (b := true) rfl) (lt rfl) ?_
        refine g_n ⟨25, vBool, false⟩ rfl rfl (noy_b (b := true) rfl) (lt rfl) ?_
        refine st (l_pickf (o_t rfl) rfl (o_b) (lt rfl)) ?_
        refine st (l_assign (o_t rfl) (lt rfl)) ?_
        refine r_nil (k_seq ?_)
        cases hp_
        exact t_ret (k_ret () rfl rfl rfl rfl rfl)
      · rw [if_pos hb13] at hp_
        refine g_t rfl rfl hb13 ?_
        refine st (l_build zr72 (.cons (o_i) fl_aBits_0 ft72_0 (.cons (o_i) fl_aBits_2 ft72_2 (.nil))) rfl stb72 (lt rfl)) ?_
        refine g_t rfl rfl hb13 ?_
        refine st (l_build zr75 (.cons (o_i) fl_aIns_0 ft75_0 (.cons (o_t rfl) fl_aIns_7 ft75_7 (.nil))) rfl stb75 (lt rfl)) ?_
        refine g_t rfl rfl hb13 ?_
        refine st (l_bslice (.cons (o_t rfl) (.nil)) rfl (Nat.le_of_ble_eq_true rfl) (lt rfl) sl25 zb75 sz75 (lt rfl)) ?_
        refine g_t rfl rfl hb13 ?_
        obtain ⟨t14, h15, hp_⟩ := bs hp_
        refine st (l_call (ok29 [(aIns.mk (1 : Int) 0 0 0 0 0 [] (aBits.mk (8 : Int) 0 (5 : Int)) 0)] _ h15) (.cons (o_t rfl) (.nil)) (lt rfl)) ?_
        refine g_t rfl rfl hb13 ?_
        obtain ⟨t16, h17, hp_⟩ := bs hp_
        refine st (l_call (ok5 t14 _ h17) (.cons (o_t rfl) (.nil)) (lt rfl)) ?_
        refine g_t rfl rfl hb13 ?_
        refine st (l_cmp (o_t rfl) (o_i) .eql (lt rfl)) ?_
        refine st (l_pickt (o_t rfl) hb13 (o_t rfl) (lt rfl)) ?_
        refine st (l_move (o_t rfl) (lt rfl)) ?_
        rcases bt (t16 == (8 : Int)) with hb18 | hb18
        · rw [if_neg (nt hb18)] at hp_
          refine g_n ⟨25, vBool, t16 == (8 : Int)⟩ rfl rfl (noy_b (b := true) hb18) (lt rfl) ?_
          refine g_n ⟨25, vBool, t16 == (8 : Int)⟩ rfl rfl (noy_b (b := true) hb18) (lt rfl) ?_
          refine g_n ⟨25, vBool, t16 == (8 : Int)⟩ rfl rfl (noy_b (b := true) hb18) (lt rfl) ?_
          refine g_n ⟨25, vBool, t16 == (8 : Int)⟩ rfl rfl (noy_b (b := true) hb18) (lt rfl) ?_
          refine g_n ⟨25, vBool, t16 == (8 : Int)⟩ rfl rfl (noy_b (b := true) hb18) (lt rfl) ?_
          refine st (l_pickf (o_t rfl) hb18 (o_b) (lt rfl)) ?_
          refine st (l_assign (o_t rfl) (lt rfl)) ?_
          refine r_nil (k_seq ?_)
          cases hp_
          exact t_ret (k_ret () rfl rfl rfl rfl rfl)
        · rw [if_pos hb18] at hp_
          refine g_t rfl rfl hb18 ?_
          refine st (l_build zr75 (.cons (o_i) fl_aIns_0 ft75_0 (.cons (o_i) fl_aIns_2 ft75_2 (.nil))) rfl stb75 (lt rfl)) ?_
          refine g_t rfl rfl hb18 ?_
          refine st (l_bslice (.cons (o_t rfl) (.nil)) rfl (Nat.le_of_ble_eq_true rfl) (lt rfl) sl25 zb75 sz75 (lt rfl)) ?_
          refine g_t rfl rfl hb18 ?_
          obtain ⟨t19, h20, hp_⟩ := bs hp_
          refine st (l_call (ok29 [(aIns.mk (2 : Int) 0 (7 : Int) 0 0 0 [] (aBits.mk 0 0 0) 0)] _ h20) (.cons (o_t rfl) (.nil)) (lt rfl)) ?_
          refine g_t rfl rfl hb18 ?_
          obtain ⟨t21, h22, hp_⟩ := bs hp_
          refine st (l_call (ok5 t19 _ h22) (.cons (o_t rfl) (.nil)) (lt rfl)) ?_
          refine g_t rfl rfl hb18 ?_
          refine st (l_cmp (o_t rfl) (o_i) .eql (lt rfl)) ?_
          refine st (l_pickt (o_t rfl) hb18 (o_t rfl) (lt rfl)) ?_
          refine st (l_assign (o_t rfl) (lt rfl)) ?_
          refine r_nil (k_seq ?_)
          cases hp_
          exact t_ret (k_ret () rfl rfl rfl rfl rfl)
-- pointsman/pointsmanlaw12.CodeParts
theorem ok3 (p0 : aCode) (p1 : Int) (y_ : Bool) (hp_ : pointsmanlaw12_CodeParts p0 p1 = some y_) : FP Tryz.prog 3 [⟨(k_aCode).v, p0⟩, ⟨vInt .u8, p1⟩] vBool y_ := by
  unfold pointsmanlaw12_CodeParts at hp_
  refine fc_of 66 Tryz.func3 rfl fn3 rfl (Nat.le_of_ble_eq_true rfl) fun I_ w_ F_ => ?_
  refine t_seq ?_
  refine t_reg ?_
  refine st (l_box (o_t rfl) (lt rfl)) ?_
  refine st (l_assign (o_b) (lt rfl)) ?_
  refine r_nil (k_seq ?_)
  refine t_seq ?_
  refine t_seq ?_
  refine t_reg ?_
  refine st (l_ld (o_t rfl) ty30 (lt rfl)) ?_
  obtain ⟨t1, h2, hp_⟩ := bs hp_
  refine st (l_call (ok4 p0 _ h2) (.cons (o_t rfl) (.nil)) (lt rfl)) ?_
  refine st (l_cmp (o_t rfl) (o_i) .gtr (lt rfl)) ?_
  refine st (l_move (o_t rfl) (lt rfl)) ?_
  rcases bt (decide (t1 > (100000 : Int))) with hb3 | hb3
  · rw [if_neg (nt hb3)] at hp_
    refine g_t rfl rfl hb3 ?_
    refine st (l_ld (o_t rfl) ty30 (lt rfl)) ?_
    refine g_t rfl rfl hb3 ?_
    obtain ⟨t4, h5, hp_⟩ := bs hp_
    refine st (l_call (ok5 p0 _ h5) (.cons (o_t rfl) (.nil)) (lt rfl)) ?_
    refine g_t rfl rfl hb3 ?_
    refine st (l_cmp (o_t rfl) (o_i) .neq (lt rfl)) ?_
    refine st (l_pickf (o_t rfl) hb3 (o_t rfl) (lt rfl)) ?_
    refine r_nil (k_seq ?_)
    rcases bt (t4 != (0 : Int)) with hb6 | hb6
    · rw [if_neg (nt hb6)] at hp_
      refine t_iff (o_t rfl) hb6 ?_
      refine t_skip (k_seq ?_)
      refine t_seq ?_
      refine t_reg ?_
      refine st (l_ld (o_t rfl) ty30 (lt rfl)) ?_
      obtain ⟨t7, h8, hp_⟩ := bs hp_
      refine r_callo (ok7_0 p0 _ h8) (.cons (o_t rfl) (.nil)) (fun _ => rfl) pm_nil (fun _ => pn_end) (lt rfl) (fun o9 => ?_)
      refine r_alloc zr30_aCodeV0_5_6 (lt rfl) (fun b13 => ?_)
      refine r_stm (i := 3) (o_t rfl) (o_t rfl) rfl (Fld.refl _) sz30_aCodeV0_5_6 ?_
      refine r_nil (k_seq ?_)
      refine t_seq ?_
      refine t_seq ?_
      refine t_reg ?_
      refine st (l_fam (o_t rfl) fa30_0 (lt rfl)) ?_
      refine st (l_ldm (i := 3) (o_t rfl) rfl fl_aCodeV0_5_6_0 tv22 (lt rfl)) ?_
      refine st (l_leno (i := 0) (o_t rfl) rfl sl22 (lt rfl)) ?_
      refine st (l_cmp (o_t rfl) (o_i) .lss (lt rfl)) ?_
      refine r_nil (k_seq ?_)
      rcases bt (decide ((t7.Slots.length : Int) < (65536 : Int))) with hb15 | hb15
      · rw [if_neg (nt hb15)] at hp_
        refine t_iff (o_t rfl) hb15 ?_
        refine t_skip (k_seq ?_)
        refine t_seq ?_
        refine t_seq ?_
        refine t_reg ?_
        refine st (l_assign (o_i) (lt rfl)) ?_
        refine r_nil (k_seq ?_)
        obtain ⟨res1_, hl1_0, hx1_⟩ := bs hp_
        clear hp_
        refine t_sub (Γ' := [⟨6, vInt .i64, (0 : Int)⟩, ⟨5, vLoc, (b13, 0)⟩]) (Sub.cons rfl (Sub.cons rfl (Sub.nil _))) ?_
        refine t_bloop (β := Nat × Int × (List aTable)) (σ := (List aTable)) (fun x_ => [⟨6, vInt .i64, x_.2.1⟩, ⟨5, vLoc, (b13, 0)⟩]) (fun x_ => [rArr (tg o9 0) 3 (kInt .i64) t7.Slots, rArr (tg o9 1) 41 k_aAct t7.Acts, rArr (tg o9 2) 39 k_aTable x_.2.2, rBox b13 30 k_aCodeV0_5_6 (aCodeV0_5_6.mk (tg o9 0) t7.Heads t7.Meta t7.States t7.Main (tg o9 1) (tg o9 2) t7.Emits t7.Arrays)]) (fun x_ => pointsmanlaw12_CodeParts.l1 x_.1 x_.2.1 x_.2.2 = some res1_) (fun x_ => x_.1) (fun x_ => [⟨5, vLoc, (b13, 0)⟩]) (fun x_ => [rArr (tg o9 0) 3 (kInt .i64) t7.Slots, rArr (tg o9 1) 41 k_aAct t7.Acts, rArr (tg o9 2) 39 k_aTable x_, rBox b13 30 k_aCodeV0_5_6 (aCodeV0_5_6.mk (tg o9 0) t7.Heads t7.Meta t7.States t7.Main (tg o9 1) (tg o9 2) t7.Emits t7.Arrays)]) (fun x_ => res1_ = x_) ?_ ?_ ((((t7.Tables.length : Int) - (0 : Int)).toNat + 1), (0 : Int), t7.Tables) hl1_0
        · rintro ⟨k1_, v6_1, w12_1⟩ hl1_
          rcases k1_ with _ | k1_
          · exact absurd (show none = some res1_ from hl1_) (by simp)
          replace hl1_ : pointsmanlaw12_CodeParts.l1 (k1_ + 1) v6_1 w12_1 = some res1_ := hl1_
          rw [pointsmanlaw12_CodeParts.l1.eq_2] at hl1_
          show Tr Tryz.prog _ [⟨6, vInt .i64, v6_1⟩, ⟨5, vLoc, (b13, 0)⟩] [rArr (tg o9 0) 3 (kInt .i64) t7.Slots, rArr (tg o9 1) 41 k_aAct t7.Acts, rArr (tg o9 2) 39 k_aTable w12_1, rBox b13 30 k_aCodeV0_5_6 (aCodeV0_5_6.mk (tg o9 0) t7.Heads t7.Meta t7.States t7.Main (tg o9 1) (tg o9 2) t7.Emits t7.Arrays)] _ _
          refine t_seq ?_
          refine t_seq ?_
          refine t_reg ?_
          refine st (l_move (o_t rfl) (lt rfl)) ?_
          refine st (l_fam (o_t rfl) fa30_6 (lt rfl)) ?_
          refine st (l_ldm (i := 3) (o_t rfl) rfl fl_aCodeV0_5_6_6 tv27 (lt rfl)) ?_
          refine st (l_leno (i := 2) (o_t rfl) rfl sl27 (lt rfl)) ?_
          refine st (l_cmp (o_t rfl) (o_t rfl) .lss (lt rfl)) ?_
          refine r_nil (k_seq ?_)
          rcases bt (decide (v6_1 < (w12_1.length : Int))) with hb16 | hb16
          · rw [if_neg (nt hb16)] at hl1_
            refine t_iff (o_t rfl) hb16 ?_
            exact t_exit (k_te <| k_te <| k_be <| k_brk w12_1 (Option.some.inj hl1_).symm (Sub.cons rfl (Sub.nil _)) rfl)
          · rw [if_pos hb16] at hl1_
            refine t_ift (o_t rfl) hb16 ?_
            refine t_skip (k_seq ?_)
            refine t_seq ?_
            refine t_blk ?_
            refine t_reg ?_
            refine st (l_fam (o_t rfl) fa30_6 (lt rfl)) ?_
            refine st (l_ldm (i := 3) (o_t rfl) rfl fl_aCodeV0_5_6_6 tv27 (lt rfl)) ?_
            refine st (l_move (o_t rfl) (lt rfl)) ?_
            obtain ⟨t17, h18, hl1_⟩ := bs hl1_
            refine st (l_iao (o_t rfl) (o_t rfl) (q := 2) rfl h18 sl27 sz39 (lt rfl)) ?_
            refine st (l_fam (o_t rfl) fa39_7 (lt rfl)) ?_
            refine r_sto (i := 2) (j := (v6_1).toNat) (off := 7) (o_t rfl) (o_nil) rfl (idx_some h18).2.2 fl_aTable_7 sz25 ?_
            refine r_nil (k_bn <| k_seq ?_)
            refine t_reg ?_
            refine st (l_move (o_t rfl) (lt rfl)) ?_
            refine st (l_bin (o_t rfl) (o_i) .add (lt rfl)) ?_
            refine st (l_assign (o_t rfl) (lt rfl)) ?_
            exact r_nil (k_again (k1_, IntKind.wrap .i64 (v6_1 + (1 : Int)), (w12_1.set (v6_1).toNat ({ t17 with Before := [] }))) hl1_ (Nat.lt_succ_self _) (Sub.cons rfl (Sub.cons rfl (Sub.nil _))) rfl)
        · intro s1_ hs1_
          replace hs1_ : s1_ = res1_ := Eq.symm hs1_
          subst hs1_
          have hp_ := hx1_
          clear hx1_
          show Kx _ [⟨5, vLoc, (b13, 0)⟩] [rArr (tg o9 0) 3 (kInt .i64) t7.Slots, rArr (tg o9 1) 41 k_aAct t7.Acts, rArr (tg o9 2) 39 k_aTable s1_, rBox b13 30 k_aCodeV0_5_6 (aCodeV0_5_6.mk (tg o9 0) t7.Heads t7.Meta t7.States t7.Main (tg o9 1) (tg o9 2) t7.Emits t7.Arrays)] _ _
          refine k_seq ?_
          refine t_seq ?_
          refine t_seq ?_
          refine t_reg ?_
          refine st (l_assign (o_i) (lt rfl)) ?_
          refine r_nil (k_seq ?_)
          obtain ⟨res2_, hl2_0, hx2_⟩ := bs hp_
          clear hp_
          refine t_sub (Γ' := [⟨7, vInt .i64, (0 : Int)⟩, ⟨5, vLoc, (b13, 0)⟩]) (Sub.cons rfl (Sub.cons rfl (Sub.nil _))) ?_
          refine t_bloop (β := Nat × Int × (List aAct)) (σ := (List aAct)) (fun x_ => [⟨7, vInt .i64, x_.2.1⟩, ⟨5, vLoc, (b13, 0)⟩]) (fun x_ => [rArr (tg o9 0) 3 (kInt .i64) t7.Slots, rArr (tg o9 1) 41 k_aAct x_.2.2, rArr (tg o9 2) 39 k_aTable s1_, rBox b13 30 k_aCodeV0_5_6 (aCodeV0_5_6.mk (tg o9 0) t7.Heads t7.Meta t7.States t7.Main (tg o9 1) (tg o9 2) t7.Emits t7.Arrays)]) (fun x_ => pointsmanlaw12_CodeParts.l2 x_.1 x_.2.1 x_.2.2 = some res2_) (fun x_ => x_.1) (fun x_ => [⟨5, vLoc, (b13, 0)⟩]) (fun x_ => [rArr (tg o9 0) 3 (kInt .i64) t7.Slots, rArr (tg o9 1) 41 k_aAct x_, rArr (tg o9 2) 39 k_aTable s1_, rBox b13 30 k_aCodeV0_5_6 (aCodeV0_5_6.mk (tg o9 0) t7.Heads t7.Meta t7.States t7.Main (tg o9 1) (tg o9 2) t7.Emits t7.Arrays)]) (fun x_ => res2_ = x_) ?_ ?_ ((((t7.Acts.length : Int) - (0 : Int)).toNat + 1), (0 : Int), t7.Acts) hl2_0
          · rintro ⟨k2_, v7_2, w11_2⟩ hl2_
            rcases k2_ with _ | k2_
            · exact absurd (show none = some res2_ from hl2_) (by simp)
            replace hl2_ : pointsmanlaw12_CodeParts.l2 (k2_ + 1) v7_2 w11_2 = some res2_ := hl2_
            rw [pointsmanlaw12_CodeParts.l2.eq_2] at hl2_
            show Tr Tryz.prog _ [⟨7, vInt .i64, v7_2⟩, ⟨5, vLoc, (b13, 0)⟩] [rArr (tg o9 0) 3 (kInt .i64) t7.Slots, rArr (tg o9 1) 41 k_aAct w11_2, rArr (tg o9 2) 39 k_aTable s1_, rBox b13 30 k_aCodeV0_5_6 (aCodeV0_5_6.mk (tg o9 0) t7.Heads t7.Meta t7.States t7.Main (tg o9 1) (tg o9 2) t7.Emits t7.Arrays)] _ _
            refine t_seq ?_
            refine t_seq ?_
            refine t_reg ?_
            refine st (l_move (o_t rfl) (lt rfl)) ?_
            refine st (l_fam (o_t rfl) fa30_5 (lt rfl)) ?_
            refine st (l_ldm (i := 3) (o_t rfl) rfl fl_aCodeV0_5_6_5 tv26 (lt rfl)) ?_
            refine st (l_leno (i := 1) (o_t rfl) rfl sl26 (lt rfl)) ?_
            refine st (l_cmp (o_t rfl) (o_t rfl) .lss (lt rfl)) ?_
            refine r_nil (k_seq ?_)
            rcases bt (decide (v7_2 < (w11_2.length : Int))) with hb19 | hb19
            · rw [if_neg (nt hb19)] at hl2_
              refine t_iff (o_t rfl) hb19 ?_
              exact t_exit (k_te <| k_te <| k_be <| k_brk w11_2 (Option.some.inj hl2_).symm (Sub.cons rfl (Sub.nil _)) rfl)
            · rw [if_pos hb19] at hl2_
              refine t_ift (o_t rfl) hb19 ?_
              refine t_skip (k_seq ?_)
              refine t_seq ?_
              refine t_blk ?_
              refine t_reg ?_
              refine st (l_fam (o_t rfl) fa30_5 (lt rfl)) ?_
              refine st (l_ldm (i := 3) (o_t rfl) rfl fl_aCodeV0_5_6_5 tv26 (lt rfl)) ?_
              refine st (l_move (o_t rfl) (lt rfl)) ?_
              obtain ⟨t20, h21, hl2_⟩ := bs hl2_
              refine st (l_iao (o_t rfl) (o_t rfl) (q := 1) rfl h21 sl26 sz41 (lt rfl)) ?_
              refine st (l_fam (o_t rfl) fa41_2 (lt rfl)) ?_
              refine r_sto (i := 1) (j := (v7_2).toNat) (off := 2) (o_t rfl) (o_nil) rfl (idx_some h21).2.2 fl_aAct_2 sz25 ?_
              refine r_nil (k_bn <| k_seq ?_)
              refine t_reg ?_
              refine st (l_move (o_t rfl) (lt rfl)) ?_
              refine st (l_bin (o_t rfl) (o_i) .add (lt rfl)) ?_
              refine st (l_assign (o_t rfl) (lt rfl)) ?_
              exact r_nil (k_again (k2_, IntKind.wrap .i64 (v7_2 + (1 : Int)), (w11_2.set (v7_2).toNat ({ t20 with Code := [] }))) hl2_ (Nat.lt_succ_self _) (Sub.cons rfl (Sub.cons rfl (Sub.nil _))) rfl)
          · intro s2_ hs2_
            replace hs2_ : s2_ = res2_ := Eq.symm hs2_
            subst hs2_
            have hp_ := hx2_
            clear hx2_
            show Kx _ [⟨5, vLoc, (b13, 0)⟩] [rArr (tg o9 0) 3 (kInt .i64) t7.Slots, rArr (tg o9 1) 41 k_aAct s2_, rArr (tg o9 2) 39 k_aTable s1_, rBox b13 30 k_aCodeV0_5_6 (aCodeV0_5_6.mk (tg o9 0) t7.Heads t7.Meta t7.States t7.Main (tg o9 1) (tg o9 2) t7.Emits t7.Arrays)] _ _
            refine k_seq ?_
            refine t_seq ?_
            refine t_reg ?_
            refine st (l_fam (o_t rfl) fa30_4 (lt rfl)) ?_
            refine r_stm (i := 3) (o_t rfl) (o_nil) rfl fl_aCodeV0_5_6_4 sz25 ?_
            refine r_nil (k_seq ?_)
            refine t_seq ?_
            refine t_reg ?_
            refine st (l_ldm (i := 3) (o_t rfl) rfl (Fld.refl _) ty30_aCodeV0_5_6 (lt rfl)) ?_
            obtain ⟨t22, h23, hp_⟩ := bs hp_
            refine st (l_callb (ok5 (aCode.mk t7.Slots t7.Heads t7.Meta t7.States [] s2_ s1_ t7.Emits t7.Arrays) _ h23) flat_int (.cons (ob_cv (y := (aCode.mk t7.Slots t7.Heads t7.Meta t7.States [] s2_ s1_ t7.Emits t7.Arrays)) (L := k_aCode) (o_t rfl) (cv_st (cv_pair (cv_own (i := 0) rfl) (cv_pair cv_eq (cv_pair cv_eq (cv_pair cv_eq (cv_pair cv_eq (cv_pair (cv_own (i := 1) rfl) (cv_pair (cv_own (i := 2) rfl) (cv_pair cv_eq (cv_pair cv_eq (cv_nil))))))))))) rfl) (.nil)) (lt rfl)) ?_
            refine st (l_cmp (o_t rfl) (o_i) .eql (lt rfl)) ?_
            refine st (l_move (o_t rfl) (lt rfl)) ?_
            rcases bt (t22 == (0 : Int)) with hb24 | hb24
            · rw [if_neg (nt hb24)] at hp_
              refine g_n ⟨63, vBool, t22 == (0 : Int)⟩ rfl rfl (noy_b (b := true) hb24) (lt rfl) ?_
              refine st (l_pickf (o_t rfl) hb24 (o_b) (lt rfl)) ?_
              refine st (l_assign (o_t rfl) (lt rfl)) ?_
              refine r_nil (k_seq ?_)
              cases hp_
              exact t_ret (k_drop <| k_ret () rfl rfl rfl rfl rfl)
            · rw [if_pos hb24] at hp_
              refine g_t rfl rfl hb24 ?_
              obtain ⟨t25, h26, hp_⟩ := bs hp_
              refine st (l_call (ok6  _ h26) (.nil) (lt rfl)) ?_
              refine st (l_pickt (o_t rfl) hb24 (o_t rfl) (lt rfl)) ?_
              refine st (l_assign (o_t rfl) (lt rfl)) ?_
              refine r_nil (k_seq ?_)
              cases hp_
              exact t_ret (k_drop <| k_ret () rfl rfl rfl rfl rfl)
      · rw [if_pos hb15] at hp_
        refine t_ift (o_t rfl) hb15 ?_
        refine t_seq ?_
        refine t_reg ?_
        refine st (l_fam (o_t rfl) fa30_0 (lt rfl)) ?_
        refine st (l_ldm (i := 3) (o_t rfl) rfl fl_aCodeV0_5_6_0 tv22 (lt rfl)) ?_
        refine st (l_move (o_t rfl) (lt rfl)) ?_
        refine st (l_conv Tryz.underlying5 int3 (o_t rfl) (lt rfl)) ?_
        refine st (l_bin (o_t rfl) (o_i) (.rem (by decide)) (lt rfl)) ?_
        refine st (l_bin (o_i) (o_t rfl) .add (lt rfl)) ?_
        refine st (l_bslice (.cons (o_t rfl) (.nil)) rfl (Nat.le_of_ble_eq_true rfl) (lt rfl) sl22 zb3 sz3 (lt rfl)) ?_
        rcases bt (appFits 8 t7.Slots.length 1) with hc27 | hc27
        · rw [if_neg (nt hc27)] at hp_; cases hp_
        rw [if_pos hc27] at hp_
        refine r_app (i := 0) el22 rfl (o_t rfl) (o_t rfl) rfl (by simp) hc27 (lt rfl) (fun o28 => ?_)
        refine st (l_fam (o_t rfl) fa30_0 (lt rfl)) ?_
        refine r_stm (i := 3) (o_t rfl) (o_t rfl) rfl fl_aCodeV0_5_6_0 sv22 ?_
        refine r_nil (k_seq ?_)
        refine t_seq ?_
        refine t_reg ?_
        refine st (l_ldm (i := 3) (o_t rfl) rfl (Fld.refl _) ty30_aCodeV0_5_6 (lt rfl)) ?_
        obtain ⟨t29, h30, hp_⟩ := bs hp_
        refine st (l_callb (ok5 (aCode.mk (t7.Slots ++ [IntKind.wrap .i64 ((1 : Int) + (Int.tmod (IntKind.wrap .i64 p1) (128 : Int)))]) t7.Heads t7.Meta t7.States t7.Main t7.Acts t7.Tables t7.Emits t7.Arrays) _ h30) flat_int (.cons (ob_cv (y := (aCode.mk (t7.Slots ++ [IntKind.wrap .i64 ((1 : Int) + (Int.tmod (IntKind.wrap .i64 p1) (128 : Int)))]) t7.Heads t7.Meta t7.States t7.Main t7.Acts t7.Tables t7.Emits t7.Arrays)) (L := k_aCode) (o_t rfl) (cv_st (cv_pair (cv_own (i := 0) rfl) (cv_pair cv_eq (cv_pair cv_eq (cv_pair cv_eq (cv_pair cv_eq (cv_pair (cv_own (i := 1) rfl) (cv_pair (cv_own (i := 2) rfl) (cv_pair cv_eq (cv_pair cv_eq (cv_nil))))))))))) rfl) (.nil)) (lt rfl)) ?_
        refine st (l_cmp (o_t rfl) (o_i) .neq (lt rfl)) ?_
        refine r_nil (k_seq ?_)
        rcases bt (t29 != (0 : Int)) with hb31 | hb31
        · rw [if_neg (nt hb31)] at hp_
          refine t_iff (o_t rfl) hb31 ?_
          refine t_skip (k_seq ?_)
          refine t_seq ?_
          refine t_seq ?_
          refine t_reg ?_
          refine st (l_assign (o_i) (lt rfl)) ?_
          refine r_nil (k_seq ?_)
          obtain ⟨res3_, hl3_0, hx3_⟩ := bs hp_
          clear hp_
          refine t_sub (Γ' := [⟨6, vInt .i64, (0 : Int)⟩, ⟨5, vLoc, (b13, 0)⟩]) (Sub.cons rfl (Sub.cons rfl (Sub.nil _))) ?_
          refine t_bloop (β := Nat × Int × (List aTable)) (σ := (List aTable)) (fun x_ => [⟨6, vInt .i64, x_.2.1⟩, ⟨5, vLoc, (b13, 0)⟩]) (fun x_ => [rArr o28 3 (kInt .i64) (t7.Slots ++ [IntKind.wrap .i64 ((1 : Int) + (Int.tmod (IntKind.wrap .i64 p1) (128 : Int)))]), rArr (tg o9 1) 41 k_aAct t7.Acts, rArr (tg o9 2) 39 k_aTable x_.2.2, rBox b13 30 k_aCodeV0_5_6 (aCodeV0_5_6.mk o28 t7.Heads t7.Meta t7.States t7.Main (tg o9 1) (tg o9 2) t7.Emits t7.Arrays)]) (fun x_ => pointsmanlaw12_CodeParts.l3 x_.1 x_.2.1 x_.2.2 = some res3_) (fun x_ => x_.1) (fun x_ => [⟨5, vLoc, (b13, 0)⟩]) (fun x_ => [rArr o28 3 (kInt .i64) (t7.Slots ++ [IntKind.wrap .i64 ((1 : Int) + (Int.tmod (IntKind.wrap .i64 p1) (128 : Int)))]), rArr (tg o9 1) 41 k_aAct t7.Acts, rArr (tg o9 2) 39 k_aTable x_, rBox b13 30 k_aCodeV0_5_6 (aCodeV0_5_6.mk o28 t7.Heads t7.Meta t7.States t7.Main (tg o9 1) (tg o9 2) t7.Emits t7.Arrays)]) (fun x_ => res3_ = x_) ?_ ?_ ((((t7.Tables.length : Int) - (0 : Int)).toNat + 1), (0 : Int), t7.Tables) hl3_0
          · rintro ⟨k3_, v6_3, w12_3⟩ hl3_
            rcases k3_ with _ | k3_
            · exact absurd (show none = some res3_ from hl3_) (by simp)
            replace hl3_ : pointsmanlaw12_CodeParts.l3 (k3_ + 1) v6_3 w12_3 = some res3_ := hl3_
            rw [pointsmanlaw12_CodeParts.l3.eq_2] at hl3_
            show Tr Tryz.prog _ [⟨6, vInt .i64, v6_3⟩, ⟨5, vLoc, (b13, 0)⟩] [rArr o28 3 (kInt .i64) (t7.Slots ++ [IntKind.wrap .i64 ((1 : Int) + (Int.tmod (IntKind.wrap .i64 p1) (128 : Int)))]), rArr (tg o9 1) 41 k_aAct t7.Acts, rArr (tg o9 2) 39 k_aTable w12_3, rBox b13 30 k_aCodeV0_5_6 (aCodeV0_5_6.mk o28 t7.Heads t7.Meta t7.States t7.Main (tg o9 1) (tg o9 2) t7.Emits t7.Arrays)] _ _
            refine t_seq ?_
            refine t_seq ?_
            refine t_reg ?_
            refine st (l_move (o_t rfl) (lt rfl)) ?_
            refine st (l_fam (o_t rfl) fa30_6 (lt rfl)) ?_
            refine st (l_ldm (i := 3) (o_t rfl) rfl fl_aCodeV0_5_6_6 tv27 (lt rfl)) ?_
            refine st (l_leno (i := 2) (o_t rfl) rfl sl27 (lt rfl)) ?_
            refine st (l_cmp (o_t rfl) (o_t rfl) .lss (lt rfl)) ?_
            refine r_nil (k_seq ?_)
            rcases bt (decide (v6_3 < (w12_3.length : Int))) with hb32 | hb32
            · rw [if_neg (nt hb32)] at hl3_
              refine t_iff (o_t rfl) hb32 ?_
              exact t_exit (k_te <| k_te <| k_be <| k_brk w12_3 (Option.some.inj hl3_).symm (Sub.cons rfl (Sub.nil _)) rfl)
            · rw [if_pos hb32] at hl3_
              refine t_ift (o_t rfl) hb32 ?_
              refine t_skip (k_seq ?_)
              refine t_seq ?_
              refine t_blk ?_
              refine t_reg ?_
              refine st (l_fam (o_t rfl) fa30_6 (lt rfl)) ?_
              refine st (l_ldm (i := 3) (o_t rfl) rfl fl_aCodeV0_5_6_6 tv27 (lt rfl)) ?_
              refine st (l_move (o_t rfl) (lt rfl)) ?_
              obtain ⟨t33, h34, hl3_⟩ := bs hl3_
              refine st (l_iao (o_t rfl) (o_t rfl) (q := 2) rfl h34 sl27 sz39 (lt rfl)) ?_
              refine st (l_fam (o_t rfl) fa39_7 (lt rfl)) ?_
              refine r_sto (i := 2) (j := (v6_3).toNat) (off := 7) (o_t rfl) (o_nil) rfl (idx_some h34).2.2 fl_aTable_7 sz25 ?_
              refine r_nil (k_bn <| k_seq ?_)
              refine t_reg ?_
              refine st (l_move (o_t rfl) (lt rfl)) ?_
              refine st (l_bin (o_t rfl) (o_i) .add (lt rfl)) ?_
              refine st (l_assign (o_t rfl) (lt rfl)) ?_
              exact r_nil (k_again (k3_, IntKind.wrap .i64 (v6_3 + (1 : Int)), (w12_3.set (v6_3).toNat ({ t33 with Before := [] }))) hl3_ (Nat.lt_succ_self _) (Sub.cons rfl (Sub.cons rfl (Sub.nil _))) rfl)
          · intro s3_ hs3_
            replace hs3_ : s3_ = res3_ := Eq.symm hs3_
            subst hs3_
            have hp_ := hx3_
            clear hx3_
            show Kx _ [⟨5, vLoc, (b13, 0)⟩] [rArr o28 3 (kInt .i64) (t7.Slots ++ [IntKind.wrap .i64 ((1 : Int) + (Int.tmod (IntKind.wrap .i64 p1) (128 : Int)))]), rArr (tg o9 1) 41 k_aAct t7.Acts, rArr (tg o9 2) 39 k_aTable s3_, rBox b13 30 k_aCodeV0_5_6 (aCodeV0_5_6.mk o28 t7.Heads t7.Meta t7.States t7.Main (tg o9 1) (tg o9 2) t7.Emits t7.Arrays)] _ _
            refine k_seq ?_
            refine t_seq ?_
            refine t_seq ?_
            refine t_reg ?_
            refine st (l_assign (o_i) (lt rfl)) ?_
            refine r_nil (k_seq ?_)
            obtain ⟨res4_, hl4_0, hx4_⟩ := bs hp_
            clear hp_
            refine t_sub (Γ' := [⟨7, vInt .i64, (0 : Int)⟩, ⟨5, vLoc, (b13, 0)⟩]) (Sub.cons rfl (Sub.cons rfl (Sub.nil _))) ?_
            refine t_bloop (β := Nat × Int × (List aAct)) (σ := (List aAct)) (fun x_ => [⟨7, vInt .i64, x_.2.1⟩, ⟨5, vLoc, (b13, 0)⟩]) (fun x_ => [rArr o28 3 (kInt .i64) (t7.Slots ++ [IntKind.wrap .i64 ((1 : Int) + (Int.tmod (IntKind.wrap .i64 p1) (128 : Int)))]), rArr (tg o9 1) 41 k_aAct x_.2.2, rArr (tg o9 2) 39 k_aTable s3_, rBox b13 30 k_aCodeV0_5_6 (aCodeV0_5_6.mk o28 t7.Heads t7.Meta t7.States t7.Main (tg o9 1) (tg o9 2) t7.Emits t7.Arrays)]) (fun x_ => pointsmanlaw12_CodeParts.l4 x_.1 x_.2.1 x_.2.2 = some res4_) (fun x_ => x_.1) (fun x_ => [⟨5, vLoc, (b13, 0)⟩]) (fun x_ => [rArr o28 3 (kInt .i64) (t7.Slots ++ [IntKind.wrap .i64 ((1 : Int) + (Int.tmod (IntKind.wrap .i64 p1) (128 : Int)))]), rArr (tg o9 1) 41 k_aAct x_, rArr (tg o9 2) 39 k_aTable s3_, rBox b13 30 k_aCodeV0_5_6 (aCodeV0_5_6.mk o28 t7.Heads t7.Meta t7.States t7.Main (tg o9 1) (tg o9 2) t7.Emits t7.Arrays)]) (fun x_ => res4_ = x_) ?_ ?_ ((((t7.Acts.length : Int) - (0 : Int)).toNat + 1), (0 : Int), t7.Acts) hl4_0
            · rintro ⟨k4_, v7_4, w11_4⟩ hl4_
              rcases k4_ with _ | k4_
              · exact absurd (show none = some res4_ from hl4_) (by simp)
              replace hl4_ : pointsmanlaw12_CodeParts.l4 (k4_ + 1) v7_4 w11_4 = some res4_ := hl4_
              rw [pointsmanlaw12_CodeParts.l4.eq_2] at hl4_
              show Tr Tryz.prog _ [⟨7, vInt .i64, v7_4⟩, ⟨5, vLoc, (b13, 0)⟩] [rArr o28 3 (kInt .i64) (t7.Slots ++ [IntKind.wrap .i64 ((1 : Int) + (Int.tmod (IntKind.wrap .i64 p1) (128 : Int)))]), rArr (tg o9 1) 41 k_aAct w11_4, rArr (tg o9 2) 39 k_aTable s3_, rBox b13 30 k_aCodeV0_5_6 (aCodeV0_5_6.mk o28 t7.Heads t7.Meta t7.States t7.Main (tg o9 1) (tg o9 2) t7.Emits t7.Arrays)] _ _
              refine t_seq ?_
              refine t_seq ?_
              refine t_reg ?_
              refine st (l_move (o_t rfl) (lt rfl)) ?_
              refine st (l_fam (o_t rfl) fa30_5 (lt rfl)) ?_
              refine st (l_ldm (i := 3) (o_t rfl) rfl fl_aCodeV0_5_6_5 tv26 (lt rfl)) ?_
              refine st (l_leno (i := 1) (o_t rfl) rfl sl26 (lt rfl)) ?_
              refine st (l_cmp (o_t rfl) (o_t rfl) .lss (lt rfl)) ?_
              refine r_nil (k_seq ?_)
              rcases bt (decide (v7_4 < (w11_4.length : Int))) with hb35 | hb35
              · rw [if_neg (nt hb35)] at hl4_
                refine t_iff (o_t rfl) hb35 ?_
                exact t_exit (k_te <| k_te <| k_be <| k_brk w11_4 (Option.some.inj hl4_).symm (Sub.cons rfl (Sub.nil _)) rfl)
              · rw [if_pos hb35] at hl4_
                refine t_ift (o_t rfl) hb35 ?_
                refine t_skip (k_seq ?_)
                refine t_seq ?_
                refine t_blk ?_
                refine t_reg ?_
                refine st (l_fam (o_t rfl) fa30_5 (lt rfl)) ?_
                refine st (l_ldm (i := 3) (o_t rfl) rfl fl_aCodeV0_5_6_5 tv26 (lt rfl)) ?_
                refine st (l_move (o_t rfl) (lt rfl)) ?_
                obtain ⟨t36, h37, hl4_⟩ := bs hl4_
                refine st (l_iao (o_t rfl) (o_t rfl) (q := 1) rfl h37 sl26 sz41 (lt rfl)) ?_
                refine st (l_fam (o_t rfl) fa41_2 (lt rfl)) ?_
                refine r_sto (i := 1) (j := (v7_4).toNat) (off := 2) (o_t rfl) (o_nil) rfl (idx_some h37).2.2 fl_aAct_2 sz25 ?_
                refine r_nil (k_bn <| k_seq ?_)
                refine t_reg ?_
                refine st (l_move (o_t rfl) (lt rfl)) ?_
                refine st (l_bin (o_t rfl) (o_i) .add (lt rfl)) ?_
                refine st (l_assign (o_t rfl) (lt rfl)) ?_
                exact r_nil (k_again (k4_, IntKind.wrap .i64 (v7_4 + (1 : Int)), (w11_4.set (v7_4).toNat ({ t36 with Code := [] }))) hl4_ (Nat.lt_succ_self _) (Sub.cons rfl (Sub.cons rfl (Sub.nil _))) rfl)
            · intro s4_ hs4_
              replace hs4_ : s4_ = res4_ := Eq.symm hs4_
              subst hs4_
              have hp_ := hx4_
              clear hx4_
              show Kx _ [⟨5, vLoc, (b13, 0)⟩] [rArr o28 3 (kInt .i64) (t7.Slots ++ [IntKind.wrap .i64 ((1 : Int) + (Int.tmod (IntKind.wrap .i64 p1) (128 : Int)))]), rArr (tg o9 1) 41 k_aAct s4_, rArr (tg o9 2) 39 k_aTable s3_, rBox b13 30 k_aCodeV0_5_6 (aCodeV0_5_6.mk o28 t7.Heads t7.Meta t7.States t7.Main (tg o9 1) (tg o9 2) t7.Emits t7.Arrays)] _ _
              refine k_seq ?_
              refine t_seq ?_
              refine t_reg ?_
              refine st (l_fam (o_t rfl) fa30_4 (lt rfl)) ?_
              refine r_stm (i := 3) (o_t rfl) (o_nil) rfl fl_aCodeV0_5_6_4 sz25 ?_
              refine r_nil (k_seq ?_)
              refine t_seq ?_
              refine t_reg ?_
              refine st (l_ldm (i := 3) (o_t rfl) rfl (Fld.refl _) ty30_aCodeV0_5_6 (lt rfl)) ?_
              obtain ⟨t38, h39, hp_⟩ := bs hp_
              refine st (l_callb (ok5 (aCode.mk (t7.Slots ++ [IntKind.wrap .i64 ((1 : Int) + (Int.tmod (IntKind.wrap .i64 p1) (128 : Int)))]) t7.Heads t7.Meta t7.States [] s4_ s3_ t7.Emits t7.Arrays) _ h39) flat_int (.cons (ob_cv (y := (aCode.mk (t7.Slots ++ [IntKind.wrap .i64 ((1 : Int) + (Int.tmod (IntKind.wrap .i64 p1) (128 : Int)))]) t7.Heads t7.Meta t7.States [] s4_ s3_ t7.Emits t7.Arrays)) (L := k_aCode) (o_t rfl) (cv_st (cv_pair (cv_own (i := 0) rfl) (cv_pair cv_eq (cv_pair cv_eq (cv_pair cv_eq (cv_pair cv_eq (cv_pair (cv_own (i := 1) rfl) (cv_pair (cv_own (i := 2) rfl) (cv_pair cv_eq (cv_pair cv_eq (cv_nil))))))))))) rfl) (.nil)) (lt rfl)) ?_
              refine st (l_cmp (o_t rfl) (o_i) .eql (lt rfl)) ?_
              refine st (l_move (o_t rfl) (lt rfl)) ?_
              rcases bt (t38 == (0 : Int)) with hb40 | hb40
              · rw [if_neg (nt hb40)] at hp_
                refine g_n ⟨63, vBool, t38 == (0 : Int)⟩ rfl rfl (noy_b (b := true) hb40) (lt rfl) ?_
                refine st (l_pickf (o_t rfl) hb40 (o_b) (lt rfl)) ?_
                refine st (l_assign (o_t rfl) (lt rfl)) ?_
                refine r_nil (k_seq ?_)
                cases hp_
                exact t_ret (k_drop <| k_ret () rfl rfl rfl rfl rfl)
              · rw [if_pos hb40] at hp_
                refine g_t rfl rfl hb40 ?_
                obtain ⟨t41, h42, hp_⟩ := bs hp_
                refine st (l_call (ok6  _ h42) (.nil) (lt rfl)) ?_
                refine st (l_pickt (o_t rfl) hb40 (o_t rfl) (lt rfl)) ?_
                refine st (l_assign (o_t rfl) (lt rfl)) ?_
                refine r_nil (k_seq ?_)
                cases hp_
                exact t_ret (k_drop <| k_ret () rfl rfl rfl rfl rfl)
        · rw [if_pos hb31] at hp_
          refine t_ift (o_t rfl) hb31 ?_
          refine t_seq ?_
          refine t_reg ?_
          refine st (l_assign (o_b) (lt rfl)) ?_
          refine r_nil (k_seq ?_)
          cases hp_
          exact t_ret (k_tr <| k_drop <| k_ret () rfl rfl rfl rfl rfl)
    · rw [if_pos hb6] at hp_
      refine t_ift (o_t rfl) hb6 ?_
      refine t_seq ?_
      refine t_reg ?_
      obtain ⟨t43, h44, hp_⟩ := bs hp_
      refine st (l_call (ok6  _ h44) (.nil) (lt rfl)) ?_
      refine st (l_assign (o_t rfl) (lt rfl)) ?_
      refine r_nil (k_seq ?_)
      cases hp_
      exact t_ret (k_tr <| k_ret () rfl rfl rfl rfl rfl)
  · rw [if_pos hb3] at hp_
    refine g_n ⟨11, vBool, decide (t1 > (100000 : Int))⟩ rfl rfl (noy_b (b := false) hb3) (lt rfl) ?_
    refine g_n ⟨11, vBool, decide (t1 > (100000 : Int))⟩ rfl rfl (noy_b (b := false) hb3) (lt rfl) ?_
    refine g_n ⟨11, vBool, decide (t1 > (100000 : Int))⟩ rfl rfl (noy_b (b := false) hb3) (lt rfl) ?_
    refine st (l_pickt (o_t rfl) hb3 (o_b) (lt rfl)) ?_
    refine r_nil (k_seq ?_)
    refine t_ift (o_t rfl) rfl ?_
    refine t_seq ?_
    refine t_reg ?_
    obtain ⟨t45, h46, hp_⟩ := bs hp_
    refine st (l_call (ok6  _ h46) (.nil) (lt rfl)) ?_
    refine st (l_assign (o_t rfl) (lt rfl)) ?_
    refine r_nil (k_seq ?_)
    cases hp_
    exact t_ret (k_tr <| k_ret () rfl rfl rfl rfl rfl)
end Go.Proofs.YtpaggjifaelcnaaGreat
