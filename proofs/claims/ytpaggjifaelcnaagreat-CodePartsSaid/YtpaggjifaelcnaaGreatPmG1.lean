import Derived.Test.YtpaggjifaelcnaaGreatPmG0
set_option linter.unusedVariables false
set_option linter.unusedSimpArgs false
set_option maxRecDepth 20000
namespace Go.Proofs.YtpaggjifaelcnaaGreat
open Go Go.Pm Go.Pt

-- pointsman/bits.alikes$6
theorem ok131 (a : aBits) (b : aBits) (y_ : aBits) (hp_ : bits_alikes_6 a b = some y_) : FP Tryz.prog 131 [⟨(k_aBits).v, a⟩, ⟨(k_aBits).v, b⟩] ((k_aBits).v) y_ := by
  unfold bits_alikes_6 at hp_
  refine fc_of 18 Tryz.func131 rfl fn131 rfl (Nat.le_of_ble_eq_true rfl) fun I_ w_ F_ => ?_
  refine t_seq ?_
  refine t_reg ?_
  refine st (l_box (o_t rfl) (lt rfl)) ?_
  refine st (l_box (o_t rfl) (lt rfl)) ?_
  refine r_alloc zr72 (lt rfl) (fun b1 => ?_)
  refine r_nil (k_seq ?_)
  refine t_seq ?_
  refine t_reg ?_
  refine st (l_fa (o_t rfl) fl_aBits_0 fa72_0 (lt rfl)) ?_
  refine st (l_ld (o_t rfl) ty3 (lt rfl)) ?_
  refine st (l_fa (o_t rfl) fl_aBits_1 fa72_1 (lt rfl)) ?_
  refine st (l_ld (o_t rfl) ty70 (lt rfl)) ?_
  refine st (l_fa (o_t rfl) fl_aBits_1 fa72_1 (lt rfl)) ?_
  refine st (l_ld (o_t rfl) ty70 (lt rfl)) ?_
  refine st (l_bin (o_t rfl) (o_t rfl) .xor (lt rfl)) ?_
  refine st (l_fa (o_t rfl) fl_aBits_2 fa72_2 (lt rfl)) ?_
  refine st (l_ld (o_t rfl) ty70 (lt rfl)) ?_
  refine st (l_fa (o_t rfl) fl_aBits_2 fa72_2 (lt rfl)) ?_
  refine st (l_ld (o_t rfl) ty70 (lt rfl)) ?_
  refine st (l_bin (o_t rfl) (o_t rfl) .xor (lt rfl)) ?_
  obtain ⟨t3, h4, hp_⟩ := bs hp_
  refine st (l_call (ok79 a.W (ixor .u64 a.Hi b.Hi) (ixor .u64 a.Lo b.Lo) _ h4) (.cons (o_t rfl) (.cons (o_t rfl) (.cons (o_t rfl) (.nil)))) (lt rfl)) ?_
  refine r_stm (i := 0) (o_t rfl) (o_t rfl) rfl (Fld.refl _) sz72 ?_
  refine r_nil (k_seq ?_)
  cases hp_
  exact t_ret (k_frzb (s := 4) (i := 0) rfl rfl <| k_drop <| k_retc () rfl ty72 rfl rfl rfl rfl)
-- pointsman/bits.one
theorem ok133 (ok : Bool) (y_ : aBits) (hp_ : bits_one ok = some y_) : FP Tryz.prog 133 [⟨vBool, ok⟩] ((k_aBits).v) y_ := by
  unfold bits_one at hp_
  refine fc_of 8 Tryz.func133 rfl fn133 rfl (Nat.le_of_ble_eq_true rfl) fun I_ w_ F_ => ?_
  refine t_seq ?_
  refine t_reg ?_
  refine r_alloc zr72 (lt rfl) (fun b1 => ?_)
  refine r_nil (k_seq ?_)
  refine t_seq ?_
  refine t_reg ?_
  refine st (l_build zr72 (.cons (o_i) fl_aBits_0 ft72_0 (.nil)) rfl stb72 (lt rfl)) ?_
  refine r_alloc zr72 (lt rfl) (fun b3 => ?_)
  refine r_stm (i := 1) (o_t rfl) (o_t rfl) rfl (Fld.refl _) sz72 ?_
  refine r_nil (k_seq ?_)
  refine t_seq ?_
  refine t_seq ?_
  refine t_reg ?_
  refine st (l_move (o_t rfl) (lt rfl)) ?_
  refine r_nil (k_seq ?_)
  rcases bt (ok) with hb5 | hb5
  · rw [if_neg (nt hb5)] at hp_
    refine t_iff (o_t rfl) hb5 ?_
    refine t_skip (k_seq ?_)
    refine t_seq ?_
    refine t_reg ?_
    refine st (l_ldm (i := 1) (o_t rfl) rfl (Fld.refl _) ty72 (lt rfl)) ?_
    refine r_stm (i := 0) (o_t rfl) (o_t rfl) rfl (Fld.refl _) sz72 ?_
    refine r_nil (k_seq ?_)
    cases hp_
    exact t_ret (k_frzb (s := 2) (i := 0) rfl rfl <| k_drop <| k_retc () rfl ty72 rfl rfl rfl rfl)
  · rw [if_pos hb5] at hp_
    refine t_ift (o_t rfl) hb5 ?_
    refine t_reg ?_
    refine st (l_fam (o_t rfl) fa72_2 (lt rfl)) ?_
    refine r_stm (i := 1) (o_t rfl) (o_i) rfl fl_aBits_2 sz70 ?_
    refine r_nil (k_seq ?_)
    refine t_seq ?_
    refine t_reg ?_
    refine st (l_ldm (i := 1) (o_t rfl) rfl (Fld.refl _) ty72 (lt rfl)) ?_
    refine r_stm (i := 0) (o_t rfl) (o_t rfl) rfl (Fld.refl _) sz72 ?_
    refine r_nil (k_seq ?_)
    cases hp_
    exact t_ret (k_frzb (s := 2) (i := 0) rfl rfl <| k_drop <| k_retc () rfl ty72 rfl rfl rfl rfl)
-- pointsman/bits.alikes$7
theorem ok132 (a : aBits) (b : aBits) (y_ : aBits) (hp_ : bits_alikes_7 a b = some y_) : FP Tryz.prog 132 [⟨(k_aBits).v, a⟩, ⟨(k_aBits).v, b⟩] ((k_aBits).v) y_ := by
  unfold bits_alikes_7 at hp_
  refine fc_of 9 Tryz.func132 rfl fn132 rfl (Nat.le_of_ble_eq_true rfl) fun I_ w_ F_ => ?_
  refine t_seq ?_
  refine t_reg ?_
  refine st (l_box (o_t rfl) (lt rfl)) ?_
  refine st (l_box (o_t rfl) (lt rfl)) ?_
  refine r_alloc zr72 (lt rfl) (fun b1 => ?_)
  refine r_nil (k_seq ?_)
  refine t_seq ?_
  refine t_reg ?_
  refine st (l_ld (o_t rfl) ty72 (lt rfl)) ?_
  refine st (l_ld (o_t rfl) ty72 (lt rfl)) ?_
  refine st (l_seq eqok72 rfl rfl (by kernel_rfl) (o_t rfl) (o_t rfl) (lt rfl)) ?_
  obtain ⟨t3, h4, hp_⟩ := bs hp_
  refine st (l_call (ok133 (eq_aBits a b) _ h4) (.cons (o_t rfl) (.nil)) (lt rfl)) ?_
  refine r_stm (i := 0) (o_t rfl) (o_t rfl) rfl (Fld.refl _) sz72 ?_
  refine r_nil (k_seq ?_)
  cases hp_
  exact t_ret (k_frzb (s := 4) (i := 0) rfl rfl <| k_drop <| k_retc () rfl ty72 rfl rfl rfl rfl)
-- pointsman/bits.alikes$8
theorem ok134 (a : aBits) (b : aBits) (y_ : aBits) (hp_ : bits_alikes_8 a b = some y_) : FP Tryz.prog 134 [⟨(k_aBits).v, a⟩, ⟨(k_aBits).v, b⟩] ((k_aBits).v) y_ := by
  unfold bits_alikes_8 at hp_
  refine fc_of 9 Tryz.func134 rfl fn134 rfl (Nat.le_of_ble_eq_true rfl) fun I_ w_ F_ => ?_
  refine t_seq ?_
  refine t_reg ?_
  refine st (l_box (o_t rfl) (lt rfl)) ?_
  refine st (l_box (o_t rfl) (lt rfl)) ?_
  refine r_alloc zr72 (lt rfl) (fun b1 => ?_)
  refine r_nil (k_seq ?_)
  refine t_seq ?_
  refine t_reg ?_
  refine st (l_ld (o_t rfl) ty72 (lt rfl)) ?_
  refine st (l_ld (o_t rfl) ty72 (lt rfl)) ?_
  refine st (l_sne eqok72 rfl rfl (by kernel_rfl) (o_t rfl) (o_t rfl) (lt rfl)) ?_
  obtain ⟨t3, h4, hp_⟩ := bs hp_
  refine st (l_call (ok133 (!(eq_aBits a b)) _ h4) (.cons (o_t rfl) (.nil)) (lt rfl)) ?_
  refine r_stm (i := 0) (o_t rfl) (o_t rfl) rfl (Fld.refl _) sz72 ?_
  refine r_nil (k_seq ?_)
  cases hp_
  exact t_ret (k_frzb (s := 4) (i := 0) rfl rfl <| k_drop <| k_retc () rfl ty72 rfl rfl rfl rfl)
-- pointsman/bits.below
theorem ok136 (a : aBits) (b : aBits) (y_ : Bool) (hp_ : bits_below a b = some y_) : FP Tryz.prog 136 [⟨(k_aBits).v, a⟩, ⟨(k_aBits).v, b⟩] vBool y_ := by
  unfold bits_below at hp_
  refine fc_of 26 Tryz.func136 rfl fn136 rfl (Nat.le_of_ble_eq_true rfl) fun I_ w_ F_ => ?_
  refine t_seq ?_
  refine t_reg ?_
  refine st (l_box (o_t rfl) (lt rfl)) ?_
  refine st (l_box (o_t rfl) (lt rfl)) ?_
  refine st (l_assign (o_b) (lt rfl)) ?_
  refine r_nil (k_seq ?_)
  refine t_seq ?_
  refine t_reg ?_
  refine st (l_fa (o_t rfl) fl_aBits_2 fa72_2 (lt rfl)) ?_
  refine st (l_ld (o_t rfl) ty70 (lt rfl)) ?_
  refine st (l_fa (o_t rfl) fl_aBits_2 fa72_2 (lt rfl)) ?_
  refine st (l_ld (o_t rfl) ty70 (lt rfl)) ?_
  obtain ⟨t1, h2, hp_⟩ := bs hp_
  refine st (l_xt xt126 (.cons (o_t rfl) (.cons (o_t rfl) (.cons (o_i) (.nil)))) (x_sub64 h2) (lt rfl)) ?_
  refine st (l_move (o_t rfl) (lt rfl)) ?_
  refine st (l_ext (x := t1) (L := (vlCons (vInt .u64) (vlCons (vInt .u64) vlNil))) (get := fun x => x.1) (o_t rfl) VGet.z (lt rfl)) ?_
  refine st (l_ext (x := t1) (L := (vlCons (vInt .u64) (vlCons (vInt .u64) vlNil))) (get := fun x => x.2.1) (o_t rfl) (VGet.s VGet.z) (lt rfl)) ?_
  refine st (l_assign (o_t rfl) (lt rfl)) ?_
  refine st (l_assign (o_t rfl) (lt rfl)) ?_
  refine r_nil (k_seq ?_)
  refine t_seq ?_
  refine t_reg ?_
  refine st (l_fa (o_t rfl) fl_aBits_1 fa72_1 (lt rfl)) ?_
  refine st (l_ld (o_t rfl) ty70 (lt rfl)) ?_
  refine st (l_fa (o_t rfl) fl_aBits_1 fa72_1 (lt rfl)) ?_
  refine st (l_ld (o_t rfl) ty70 (lt rfl)) ?_
  refine st (l_move (o_t rfl) (lt rfl)) ?_
  obtain ⟨t3, h4, hp_⟩ := bs hp_
  refine st (l_xt xt126 (.cons (o_t rfl) (.cons (o_t rfl) (.cons (o_t rfl) (.nil)))) (x_sub64 h4) (lt rfl)) ?_
  refine st (l_move (o_t rfl) (lt rfl)) ?_
  refine st (l_ext (x := t3) (L := (vlCons (vInt .u64) (vlCons (vInt .u64) vlNil))) (get := fun x => x.1) (o_t rfl) VGet.z (lt rfl)) ?_
  refine st (l_ext (x := t3) (L := (vlCons (vInt .u64) (vlCons (vInt .u64) vlNil))) (get := fun x => x.2.1) (o_t rfl) (VGet.s VGet.z) (lt rfl)) ?_
  refine st (l_assign (o_t rfl) (lt rfl)) ?_
  refine r_nil (k_seq ?_)
  refine t_seq ?_
  refine t_reg ?_
  refine st (l_move (o_t rfl) (lt rfl)) ?_
  refine st (l_cmp (o_t rfl) (o_i) .eql (lt rfl)) ?_
  refine st (l_assign (o_t rfl) (lt rfl)) ?_
  refine r_nil (k_seq ?_)
  cases hp_
  exact t_ret (k_ret () rfl rfl rfl rfl rfl)
-- pointsman/bits.alikes$9
theorem ok135 (a : aBits) (b : aBits) (y_ : aBits) (hp_ : bits_alikes_9 a b = some y_) : FP Tryz.prog 135 [⟨(k_aBits).v, a⟩, ⟨(k_aBits).v, b⟩] ((k_aBits).v) y_ := by
  unfold bits_alikes_9 at hp_
  refine fc_of 9 Tryz.func135 rfl fn135 rfl (Nat.le_of_ble_eq_true rfl) fun I_ w_ F_ => ?_
  refine t_seq ?_
  refine t_reg ?_
  refine st (l_box (o_t rfl) (lt rfl)) ?_
  refine st (l_box (o_t rfl) (lt rfl)) ?_
  refine r_alloc zr72 (lt rfl) (fun b1 => ?_)
  refine r_nil (k_seq ?_)
  refine t_seq ?_
  refine t_reg ?_
  refine st (l_ld (o_t rfl) ty72 (lt rfl)) ?_
  refine st (l_ld (o_t rfl) ty72 (lt rfl)) ?_
  obtain ⟨t3, h4, hp_⟩ := bs hp_
  refine st (l_call (ok136 a b _ h4) (.cons (o_t rfl) (.cons (o_t rfl) (.nil))) (lt rfl)) ?_
  obtain ⟨t5, h6, hp_⟩ := bs hp_
  refine st (l_call (ok133 t3 _ h6) (.cons (o_t rfl) (.nil)) (lt rfl)) ?_
  refine r_stm (i := 0) (o_t rfl) (o_t rfl) rfl (Fld.refl _) sz72 ?_
  refine r_nil (k_seq ?_)
  cases hp_
  exact t_ret (k_frzb (s := 4) (i := 0) rfl rfl <| k_drop <| k_retc () rfl ty72 rfl rfl rfl rfl)
-- pointsman/bits.alikes$10
theorem ok137 (a : aBits) (b : aBits) (y_ : aBits) (hp_ : bits_alikes_10 a b = some y_) : FP Tryz.prog 137 [⟨(k_aBits).v, a⟩, ⟨(k_aBits).v, b⟩] ((k_aBits).v) y_ := by
  unfold bits_alikes_10 at hp_
  refine fc_of 10 Tryz.func137 rfl fn137 rfl (Nat.le_of_ble_eq_true rfl) fun I_ w_ F_ => ?_
  refine t_seq ?_
  refine t_reg ?_
  refine st (l_box (o_t rfl) (lt rfl)) ?_
  refine st (l_box (o_t rfl) (lt rfl)) ?_
  refine r_alloc zr72 (lt rfl) (fun b1 => ?_)
  refine r_nil (k_seq ?_)
  refine t_seq ?_
  refine t_reg ?_
  refine st (l_ld (o_t rfl) ty72 (lt rfl)) ?_
  refine st (l_ld (o_t rfl) ty72 (lt rfl)) ?_
  obtain ⟨t3, h4, hp_⟩ := bs hp_
  refine st (l_call (ok136 b a _ h4) (.cons (o_t rfl) (.cons (o_t rfl) (.nil))) (lt rfl)) ?_
  refine st (l_not (o_t rfl) (lt rfl)) ?_
  obtain ⟨t5, h6, hp_⟩ := bs hp_
  refine st (l_call (ok133 (!t3) _ h6) (.cons (o_t rfl) (.nil)) (lt rfl)) ?_
  refine r_stm (i := 0) (o_t rfl) (o_t rfl) rfl (Fld.refl _) sz72 ?_
  refine r_nil (k_seq ?_)
  cases hp_
  exact t_ret (k_frzb (s := 4) (i := 0) rfl rfl <| k_drop <| k_retc () rfl ty72 rfl rfl rfl rfl)
-- pointsman/bits.alikes
theorem ok112  (y_ : List (Int × ((aBits × aBits) → Option aBits))) (hp_ : bits_alikes  = some y_) : FP Tryz.prog 112 [] ((kMap (kInt .u8) (kClo Tryz.prog (fun x : aBits × aBits => [⟨(k_aBits).v, x.1⟩, ⟨(k_aBits).v, x.2⟩]) ((k_aBits).v))).v) y_ := by
  unfold bits_alikes at hp_
  refine fc_of 3 Tryz.func112 rfl fn112 rfl (Nat.le_of_ble_eq_true rfl) fun I_ w_ F_ => ?_
  refine t_seq ?_
  refine t_reg ?_
  refine st (l_assign (o_nilm (K := kInt .u8) (V := kClo Tryz.prog (fun x : aBits × aBits => [⟨(k_aBits).v, x.1⟩, ⟨(k_aBits).v, x.2⟩]) ((k_aBits).v))) (lt rfl)) ?_
  refine r_nil (k_seq ?_)
  refine t_seq ?_
  refine t_reg ?_
  refine r_mkmap (K := kInt .u8) (V := kClo Tryz.prog (fun x : aBits × aBits => [⟨(k_aBits).v, x.1⟩, ⟨(k_aBits).v, x.2⟩]) ((k_aBits).v)) (lt rfl) (fun o1 => ?_)
  refine r_mu (i := 0) (.inr rfl) mp153 (key_int (by kernel_rfl)) (o_t rfl) (o_i) (o_clo (o_fk) fn123 (fun x_ y h => ok123 x_.1 x_.2 _ h)) rfl ?_
  refine r_mu (i := 0) (.inr rfl) mp153 (key_int (by kernel_rfl)) (o_t rfl) (o_i) (o_clo (o_fk) fn125 (fun x_ y h => ok125 x_.1 x_.2 _ h)) rfl ?_
  refine r_mu (i := 0) (.inr rfl) mp153 (key_int (by kernel_rfl)) (o_t rfl) (o_i) (o_clo (o_fk) fn127 (fun x_ y h => ok127 x_.1 x_.2 _ h)) rfl ?_
  refine r_mu (i := 0) (.inr rfl) mp153 (key_int (by kernel_rfl)) (o_t rfl) (o_i) (o_clo (o_fk) fn129 (fun x_ y h => ok129 x_.1 x_.2 _ h)) rfl ?_
  refine r_mu (i := 0) (.inr rfl) mp153 (key_int (by kernel_rfl)) (o_t rfl) (o_i) (o_clo (o_fk) fn130 (fun x_ y h => ok130 x_.1 x_.2 _ h)) rfl ?_
  refine r_mu (i := 0) (.inr rfl) mp153 (key_int (by kernel_rfl)) (o_t rfl) (o_i) (o_clo (o_fk) fn131 (fun x_ y h => ok131 x_.1 x_.2 _ h)) rfl ?_
  refine r_mu (i := 0) (.inr rfl) mp153 (key_int (by kernel_rfl)) (o_t rfl) (o_i) (o_clo (o_fk) fn132 (fun x_ y h => ok132 x_.1 x_.2 _ h)) rfl ?_
  refine r_mu (i := 0) (.inr rfl) mp153 (key_int (by kernel_rfl)) (o_t rfl) (o_i) (o_clo (o_fk) fn134 (fun x_ y h => ok134 x_.1 x_.2 _ h)) rfl ?_
  refine r_mu (i := 0) (.inr rfl) mp153 (key_int (by kernel_rfl)) (o_t rfl) (o_i) (o_clo (o_fk) fn135 (fun x_ y h => ok135 x_.1 x_.2 _ h)) rfl ?_
  refine r_mu (i := 0) (.inr rfl) mp153 (key_int (by kernel_rfl)) (o_t rfl) (o_i) (o_clo (o_fk) fn137 (fun x_ y h => ok137 x_.1 x_.2 _ h)) rfl ?_
  refine st (l_move (o_t rfl) (lt rfl)) ?_
  refine st (l_assign (o_t rfl) (lt rfl)) ?_
  refine r_nil (k_seq ?_)
  cases hp_
  exact t_ret (k_frzm (s := 0) (i := 0) rfl rfl <| k_drop <| k_ret () rfl rfl rfl rfl rfl)
-- pointsman/bits.by
theorem ok140 (b : aBits) (y_ : Int) (hp_ : bits_by b = some y_) : FP Tryz.prog 140 [⟨(k_aBits).v, b⟩] (vInt .u64) y_ := by
  unfold bits_by at hp_
  refine fc_of 13 Tryz.func140 rfl fn140 rfl (Nat.le_of_ble_eq_true rfl) fun I_ w_ F_ => ?_
  refine t_seq ?_
  refine t_reg ?_
  refine st (l_box (o_t rfl) (lt rfl)) ?_
  refine st (l_assign (o_i) (lt rfl)) ?_
  refine r_nil (k_seq ?_)
  refine t_seq ?_
  refine t_seq ?_
  refine t_reg ?_
  refine st (l_fa (o_t rfl) fl_aBits_1 fa72_1 (lt rfl)) ?_
  refine st (l_ld (o_t rfl) ty70 (lt rfl)) ?_
  refine st (l_cmp (o_t rfl) (o_i) .gtr (lt rfl)) ?_
  refine st (l_move (o_t rfl) (lt rfl)) ?_
  rcases bt (decide (b.Hi > (0 : Int))) with hb1 | hb1
  · rw [if_neg (nt hb1)] at hp_
    refine g_t rfl rfl hb1 ?_
    refine st (l_fa (o_t rfl) fl_aBits_2 fa72_2 (lt rfl)) ?_
    refine g_t rfl rfl hb1 ?_
    refine st (l_ld (o_t rfl) ty70 (lt rfl)) ?_
    refine g_t rfl rfl hb1 ?_
    refine st (l_cmp (o_t rfl) (o_i) .gtr (lt rfl)) ?_
    refine st (l_pickf (o_t rfl) hb1 (o_t rfl) (lt rfl)) ?_
    refine r_nil (k_seq ?_)
    rcases bt (decide (b.Lo > (128 : Int))) with hb2 | hb2
    · rw [if_neg (nt hb2)] at hp_
      refine t_iff (o_t rfl) hb2 ?_
      refine t_skip (k_seq ?_)
      refine t_seq ?_
      refine t_reg ?_
      refine st (l_fa (o_t rfl) fl_aBits_2 fa72_2 (lt rfl)) ?_
      refine st (l_ld (o_t rfl) ty70 (lt rfl)) ?_
      refine st (l_assign (o_t rfl) (lt rfl)) ?_
      refine r_nil (k_seq ?_)
      cases hp_
      exact t_ret (k_ret () rfl rfl rfl rfl rfl)
    · rw [if_pos hb2] at hp_
      refine t_ift (o_t rfl) hb2 ?_
      refine t_seq ?_
      refine t_reg ?_
      refine st (l_assign (o_i) (lt rfl)) ?_
      refine r_nil (k_seq ?_)
      cases hp_
      exact t_ret (k_tr <| k_ret () rfl rfl rfl rfl rfl)
  · rw [if_pos hb1] at hp_
    refine g_n ⟨6, vBool, decide (b.Hi > (0 : Int))⟩ rfl rfl (noy_b (b := false) hb1) (lt rfl) ?_
    refine g_n ⟨6, vBool, decide (b.Hi > (0 : Int))⟩ rfl rfl (noy_b (b := false) hb1) (lt rfl) ?_
    refine g_n ⟨6, vBool, decide (b.Hi > (0 : Int))⟩ rfl rfl (noy_b (b := false) hb1) (lt rfl) ?_
    refine st (l_pickt (o_t rfl) hb1 (o_b) (lt rfl)) ?_
    refine r_nil (k_seq ?_)
    refine t_ift (o_t rfl) rfl ?_
    refine t_seq ?_
    refine t_reg ?_
    refine st (l_assign (o_i) (lt rfl)) ?_
    refine r_nil (k_seq ?_)
    cases hp_
    exact t_ret (k_tr <| k_ret () rfl rfl rfl rfl rfl)
-- pointsman/bits.up
theorem ok139 (a : aBits) (n : Int) (y_ : aBits) (hp_ : bits_up a n = some y_) : FP Tryz.prog 139 [⟨(k_aBits).v, a⟩, ⟨vInt .u64, n⟩] ((k_aBits).v) y_ := by
  unfold bits_up at hp_
  refine fc_of 32 Tryz.func139 rfl fn139 rfl (Nat.le_of_ble_eq_true rfl) fun I_ w_ F_ => ?_
  refine t_seq ?_
  refine t_reg ?_
  refine st (l_box (o_t rfl) (lt rfl)) ?_
  refine r_alloc zr72 (lt rfl) (fun b1 => ?_)
  refine r_nil (k_seq ?_)
  refine t_seq ?_
  refine t_seq ?_
  refine t_reg ?_
  refine st (l_move (o_t rfl) (lt rfl)) ?_
  refine st (l_cmp (o_t rfl) (o_i) .geq (lt rfl)) ?_
  refine r_nil (k_seq ?_)
  rcases bt (decide (n ≥ (64 : Int))) with hb3 | hb3
  · rw [if_neg (nt hb3)] at hp_
    refine t_iff (o_t rfl) hb3 ?_
    refine t_skip (k_seq ?_)
    refine t_seq ?_
    refine t_reg ?_
    refine st (l_fa (o_t rfl) fl_aBits_0 fa72_0 (lt rfl)) ?_
    refine st (l_ld (o_t rfl) ty3 (lt rfl)) ?_
    refine st (l_fa (o_t rfl) fl_aBits_1 fa72_1 (lt rfl)) ?_
    refine st (l_ld (o_t rfl) ty70 (lt rfl)) ?_
    refine st (l_move (o_t rfl) (lt rfl)) ?_
    rcases bt (decide (0 ≤ n)) with hc4 | hc4
    · rw [if_neg (nt hc4)] at hp_; cases hp_
    rw [if_pos hc4] at hp_
    refine st (l_sh (o_t rfl) (o_t rfl) (of_decide_eq_true hc4) .shl (lt rfl)) ?_
    refine st (l_fa (o_t rfl) fl_aBits_2 fa72_2 (lt rfl)) ?_
    refine st (l_ld (o_t rfl) ty70 (lt rfl)) ?_
    refine st (l_move (o_t rfl) (lt rfl)) ?_
    refine st (l_bin (o_i) (o_t rfl) .sub (lt rfl)) ?_
    rcases bt (decide (0 ≤ IntKind.wrap .u64 ((64 : Int) - n))) with hc5 | hc5
    · rw [if_neg (nt hc5)] at hp_; cases hp_
    rw [if_pos hc5] at hp_
    refine st (l_sh (o_t rfl) (o_t rfl) (of_decide_eq_true hc5) .shr (lt rfl)) ?_
    refine st (l_bin (o_t rfl) (o_t rfl) .or (lt rfl)) ?_
    refine st (l_fa (o_t rfl) fl_aBits_2 fa72_2 (lt rfl)) ?_
    refine st (l_ld (o_t rfl) ty70 (lt rfl)) ?_
    refine st (l_move (o_t rfl) (lt rfl)) ?_
    rcases bt (decide (0 ≤ n)) with hc6 | hc6
    · rw [if_neg (nt hc6)] at hp_; cases hp_
    rw [if_pos hc6] at hp_
    refine st (l_sh (o_t rfl) (o_t rfl) (of_decide_eq_true hc6) .shl (lt rfl)) ?_
    obtain ⟨t7, h8, hp_⟩ := bs hp_
    refine st (l_call (ok79 a.W (ior .u64 (ishl .u64 a.Hi n) (ishr .u64 a.Lo (IntKind.wrap .u64 ((64 : Int) - n)))) (ishl .u64 a.Lo n) _ h8) (.cons (o_t rfl) (.cons (o_t rfl) (.cons (o_t rfl) (.nil)))) (lt rfl)) ?_
    refine r_stm (i := 0) (o_t rfl) (o_t rfl) rfl (Fld.refl _) sz72 ?_
    refine r_nil (k_seq ?_)
    cases hp_
    exact t_ret (k_frzb (s := 4) (i := 0) rfl rfl <| k_drop <| k_retc () rfl ty72 rfl rfl rfl rfl)
  · rw [if_pos hb3] at hp_
    refine t_ift (o_t rfl) hb3 ?_
    refine t_seq ?_
    refine t_reg ?_
    refine st (l_fa (o_t rfl) fl_aBits_0 fa72_0 (lt rfl)) ?_
    refine st (l_ld (o_t rfl) ty3 (lt rfl)) ?_
    refine st (l_fa (o_t rfl) fl_aBits_2 fa72_2 (lt rfl)) ?_
    refine st (l_ld (o_t rfl) ty70 (lt rfl)) ?_
    refine st (l_move (o_t rfl) (lt rfl)) ?_
    refine st (l_bin (o_t rfl) (o_i) .sub (lt rfl)) ?_
    rcases bt (decide (0 ≤ IntKind.wrap .u64 (n - (64 : Int)))) with hc9 | hc9
    · rw [if_neg (nt hc9)] at hp_; cases hp_
    rw [if_pos hc9] at hp_
    refine st (l_sh (o_t rfl) (o_t rfl) (of_decide_eq_true hc9) .shl (lt rfl)) ?_
    obtain ⟨t10, h11, hp_⟩ := bs hp_
    refine st (l_call (ok79 a.W (ishl .u64 a.Lo (IntKind.wrap .u64 (n - (64 : Int)))) (0 : Int) _ h11) (.cons (o_t rfl) (.cons (o_t rfl) (.cons (o_i) (.nil)))) (lt rfl)) ?_
    refine r_stm (i := 0) (o_t rfl) (o_t rfl) rfl (Fld.refl _) sz72 ?_
    refine r_nil (k_seq ?_)
    cases hp_
    exact t_ret (k_frzb (s := 4) (i := 0) rfl rfl <| k_tr <| k_drop <| k_retc () rfl ty72 rfl rfl rfl rfl)
-- pointsman/bits.others$1
theorem ok138 (a : aBits) (b : aBits) (y_ : aBits) (hp_ : bits_others_1 a b = some y_) : FP Tryz.prog 138 [⟨(k_aBits).v, a⟩, ⟨(k_aBits).v, b⟩] ((k_aBits).v) y_ := by
  unfold bits_others_1 at hp_
  refine fc_of 9 Tryz.func138 rfl fn138 rfl (Nat.le_of_ble_eq_true rfl) fun I_ w_ F_ => ?_
  refine t_seq ?_
  refine t_reg ?_
  refine st (l_box (o_t rfl) (lt rfl)) ?_
  refine st (l_box (o_t rfl) (lt rfl)) ?_
  refine r_alloc zr72 (lt rfl) (fun b1 => ?_)
  refine r_nil (k_seq ?_)
  refine t_seq ?_
  obtain ⟨t3, h4, hp_⟩ := bs hp_
  obtain ⟨t5, h6, hp_⟩ := bs hp_
  refine t_draw [(0, fun gs_ => some ⟨5, (k_aBits).v, a⟩), (0, fun gs_ => some ⟨6, (k_aBits).v, b⟩), (0, fun gs_ => some ⟨7, vInt .u64, t3⟩), (0, fun gs_ => some ⟨8, (k_aBits).v, t5⟩), (1, fun gs_ => none)] mixed rfl rfl (fun gs_ => [] ++ ph gs_ [fun gs_ => [rBox b1 72 k_aBits (aBits.mk 0 0 0)], fun gs_ => [rBox b1 72 k_aBits t5]]) [4] rfl (.x (f := fun gs_ => ⟨5, (k_aBits).v, a⟩) 0 (fun gs_ => [⟨2, vPtr k_aBits, a⟩]) rfl (fun gs_ => l_ld (o_t rfl) ty72 (lt rfl)) (fun gs_ => .b rfl rfl (.nil)) .n (fun _ => rfl) rfl (fun _ _ _ => rfl) (.x (f := fun gs_ => ⟨6, (k_aBits).v, b⟩) 0 (fun gs_ => [⟨3, vPtr k_aBits, b⟩]) rfl (fun gs_ => l_ld (o_t rfl) ty72 (lt rfl)) (fun gs_ => .b rfl rfl (.nil)) .n (fun _ => rfl) rfl (fun _ _ _ => rfl) (.x (f := fun gs_ => ⟨7, vInt .u64, t3⟩) 0 (fun gs_ => [⟨6, (k_aBits).v, b⟩]) rfl (fun gs_ => l_call (ok140 b _ h4) (.cons (o_t rfl) (.nil)) (lt rfl)) (fun gs_ => .d 1 rfl rfl (.nil)) .n (fun _ => rfl) rfl (fun _ _ _ => rfl) (.x (f := fun gs_ => ⟨8, (k_aBits).v, t5⟩) 0 (fun gs_ => [⟨5, (k_aBits).v, a⟩, ⟨7, vInt .u64, t3⟩]) rfl (fun gs_ => l_call (ok139 a t3 _ h6) (.cons (o_t rfl) (.cons (o_t rfl) (.nil))) (lt rfl)) (fun gs_ => .d 0 rfl rfl (.d 2 rfl rfl (.nil))) .n (fun _ => rfl) rfl (fun _ _ _ => rfl) (.e (f := fun gs_ => none) 0 (fun gs_ => [⟨4, vLoc, (b1, 0)⟩, ⟨8, (k_aBits).v, t5⟩]) rfl (fun gs_ hg_ => by obtain rfl := len0 hg_; show LocX _ _ _ [rBox b1 72 k_aBits (aBits.mk 0 0 0)] _ (fun gh900_ => none) (fun gh900_ => [rBox b1 72 k_aBits t5]); exact e_stm (i := 0) (o_t rfl) (o_t rfl) rfl (Fld.refl _) sz72) (fun gs_ => .b rfl rfl (.d 3 rfl rfl (.nil))) .n (fun _ => rfl) rfl (fun _ _ _ => rfl) (.nil)))))) (fun gs_ hgs_ => ?_)
  obtain ⟨gh900_, rfl⟩ := len1 hgs_
  show Kx _ _ [rBox b1 72 k_aBits t5] _ _
  refine k_seq ?_
  cases hp_
  exact t_ret (k_frzb (s := 4) (i := 0) rfl rfl <| k_drop <| k_retc () rfl ty72 rfl rfl rfl rfl)
-- pointsman/bits.down
theorem ok114 (a : aBits) (n : Int) (y_ : aBits) (hp_ : bits_down a n = some y_) : FP Tryz.prog 114 [⟨(k_aBits).v, a⟩, ⟨vInt .u64, n⟩] ((k_aBits).v) y_ := by
  unfold bits_down at hp_
  refine fc_of 32 Tryz.func114 rfl fn114 rfl (Nat.le_of_ble_eq_true rfl) fun I_ w_ F_ => ?_
  refine t_seq ?_
  refine t_reg ?_
  refine st (l_box (o_t rfl) (lt rfl)) ?_
  refine r_alloc zr72 (lt rfl) (fun b1 => ?_)
  refine r_nil (k_seq ?_)
  refine t_seq ?_
  refine t_seq ?_
  refine t_reg ?_
  refine st (l_move (o_t rfl) (lt rfl)) ?_
  refine st (l_cmp (o_t rfl) (o_i) .geq (lt rfl)) ?_
  refine r_nil (k_seq ?_)
  rcases bt (decide (n ≥ (64 : Int))) with hb3 | hb3
  · rw [if_neg (nt hb3)] at hp_
    refine t_iff (o_t rfl) hb3 ?_
    refine t_skip (k_seq ?_)
    refine t_seq ?_
    refine t_reg ?_
    refine st (l_fa (o_t rfl) fl_aBits_0 fa72_0 (lt rfl)) ?_
    refine st (l_ld (o_t rfl) ty3 (lt rfl)) ?_
    refine st (l_fa (o_t rfl) fl_aBits_1 fa72_1 (lt rfl)) ?_
    refine st (l_ld (o_t rfl) ty70 (lt rfl)) ?_
    refine st (l_move (o_t rfl) (lt rfl)) ?_
    rcases bt (decide (0 ≤ n)) with hc4 | hc4
    · rw [if_neg (nt hc4)] at hp_; cases hp_
    rw [if_pos hc4] at hp_
    refine st (l_sh (o_t rfl) (o_t rfl) (of_decide_eq_true hc4) .shr (lt rfl)) ?_
    refine st (l_fa (o_t rfl) fl_aBits_2 fa72_2 (lt rfl)) ?_
    refine st (l_ld (o_t rfl) ty70 (lt rfl)) ?_
    refine st (l_move (o_t rfl) (lt rfl)) ?_
    rcases bt (decide (0 ≤ n)) with hc5 | hc5
    · rw [if_neg (nt hc5)] at hp_; cases hp_
    rw [if_pos hc5] at hp_
    refine st (l_sh (o_t rfl) (o_t rfl) (of_decide_eq_true hc5) .shr (lt rfl)) ?_
    refine st (l_fa (o_t rfl) fl_aBits_1 fa72_1 (lt rfl)) ?_
    refine st (l_ld (o_t rfl) ty70 (lt rfl)) ?_
    refine st (l_move (o_t rfl) (lt rfl)) ?_
    refine st (l_bin (o_i) (o_t rfl) .sub (lt rfl)) ?_
    rcases bt (decide (0 ≤ IntKind.wrap .u64 ((64 : Int) - n))) with hc6 | hc6
    · rw [if_neg (nt hc6)] at hp_; cases hp_
    rw [if_pos hc6] at hp_
    refine st (l_sh (o_t rfl) (o_t rfl) (of_decide_eq_true hc6) .shl (lt rfl)) ?_
    refine st (l_bin (o_t rfl) (o_t rfl) .or (lt rfl)) ?_
    obtain ⟨t7, h8, hp_⟩ := bs hp_
    refine st (l_call (ok79 a.W (ishr .u64 a.Hi n) (ior .u64 (ishr .u64 a.Lo n) (ishl .u64 a.Hi (IntKind.wrap .u64 ((64 : Int) - n)))) _ h8) (.cons (o_t rfl) (.cons (o_t rfl) (.cons (o_t rfl) (.nil)))) (lt rfl)) ?_
    refine r_stm (i := 0) (o_t rfl) (o_t rfl) rfl (Fld.refl _) sz72 ?_
    refine r_nil (k_seq ?_)
    cases hp_
    exact t_ret (k_frzb (s := 4) (i := 0) rfl rfl <| k_drop <| k_retc () rfl ty72 rfl rfl rfl rfl)
  · rw [if_pos hb3] at hp_
    refine t_ift (o_t rfl) hb3 ?_
    refine t_seq ?_
    refine t_reg ?_
    refine st (l_fa (o_t rfl) fl_aBits_0 fa72_0 (lt rfl)) ?_
    refine st (l_ld (o_t rfl) ty3 (lt rfl)) ?_
    refine st (l_fa (o_t rfl) fl_aBits_1 fa72_1 (lt rfl)) ?_
    refine st (l_ld (o_t rfl) ty70 (lt rfl)) ?_
    refine st (l_move (o_t rfl) (lt rfl)) ?_
    refine st (l_bin (o_t rfl) (o_i) .sub (lt rfl)) ?_
    rcases bt (decide (0 ≤ IntKind.wrap .u64 (n - (64 : Int)))) with hc9 | hc9
    · rw [if_neg (nt hc9)] at hp_; cases hp_
    rw [if_pos hc9] at hp_
    refine st (l_sh (o_t rfl) (o_t rfl) (of_decide_eq_true hc9) .shr (lt rfl)) ?_
    obtain ⟨t10, h11, hp_⟩ := bs hp_
    refine st (l_call (ok79 a.W (0 : Int) (ishr .u64 a.Hi (IntKind.wrap .u64 (n - (64 : Int)))) _ h11) (.cons (o_t rfl) (.cons (o_i) (.cons (o_t rfl) (.nil)))) (lt rfl)) ?_
    refine r_stm (i := 0) (o_t rfl) (o_t rfl) rfl (Fld.refl _) sz72 ?_
    refine r_nil (k_seq ?_)
    cases hp_
    exact t_ret (k_frzb (s := 4) (i := 0) rfl rfl <| k_tr <| k_drop <| k_retc () rfl ty72 rfl rfl rfl rfl)
-- pointsman/bits.others$2
theorem ok141 (a : aBits) (b : aBits) (y_ : aBits) (hp_ : bits_others_2 a b = some y_) : FP Tryz.prog 141 [⟨(k_aBits).v, a⟩, ⟨(k_aBits).v, b⟩] ((k_aBits).v) y_ := by
  unfold bits_others_2 at hp_
  refine fc_of 9 Tryz.func141 rfl fn141 rfl (Nat.le_of_ble_eq_true rfl) fun I_ w_ F_ => ?_
  refine t_seq ?_
  refine t_reg ?_
  refine st (l_box (o_t rfl) (lt rfl)) ?_
  refine st (l_box (o_t rfl) (lt rfl)) ?_
  refine r_alloc zr72 (lt rfl) (fun b1 => ?_)
  refine r_nil (k_seq ?_)
  refine t_seq ?_
  obtain ⟨t3, h4, hp_⟩ := bs hp_
  obtain ⟨t5, h6, hp_⟩ := bs hp_
  refine t_draw [(0, fun gs_ => some ⟨5, (k_aBits).v, a⟩), (0, fun gs_ => some ⟨6, (k_aBits).v, b⟩), (0, fun gs_ => some ⟨7, vInt .u64, t3⟩), (0, fun gs_ => some ⟨8, (k_aBits).v, t5⟩), (1, fun gs_ => none)] mixed rfl rfl (fun gs_ => [] ++ ph gs_ [fun gs_ => [rBox b1 72 k_aBits (aBits.mk 0 0 0)], fun gs_ => [rBox b1 72 k_aBits t5]]) [4] rfl (.x (f := fun gs_ => ⟨5, (k_aBits).v, a⟩) 0 (fun gs_ => [⟨2, vPtr k_aBits, a⟩]) rfl (fun gs_ => l_ld (o_t rfl) ty72 (lt rfl)) (fun gs_ => .b rfl rfl (.nil)) .n (fun _ => rfl) rfl (fun _ _ _ => rfl) (.x (f := fun gs_ => ⟨6, (k_aBits).v, b⟩) 0 (fun gs_ => [⟨3, vPtr k_aBits, b⟩]) rfl (fun gs_ => l_ld (o_t rfl) ty72 (lt rfl)) (fun gs_ => .b rfl rfl (.nil)) .n (fun _ => rfl) rfl (fun _ _ _ => rfl) (.x (f := fun gs_ => ⟨7, vInt .u64, t3⟩) 0 (fun gs_ => [⟨6, (k_aBits).v, b⟩]) rfl (fun gs_ => l_call (ok140 b _ h4) (.cons (o_t rfl) (.nil)) (lt rfl)) (fun gs_ => .d 1 rfl rfl (.nil)) .n (fun _ => rfl) rfl (fun _ _ _ => rfl) (.x (f := fun gs_ => ⟨8, (k_aBits).v, t5⟩) 0 (fun gs_ => [⟨5, (k_aBits).v, a⟩, ⟨7, vInt .u64, t3⟩]) rfl (fun gs_ => l_call (ok114 a t3 _ h6) (.cons (o_t rfl) (.cons (o_t rfl) (.nil))) (lt rfl)) (fun gs_ => .d 0 rfl rfl (.d 2 rfl rfl (.nil))) .n (fun _ => rfl) rfl (fun _ _ _ => rfl) (.e (f := fun gs_ => none) 0 (fun gs_ => [⟨4, vLoc, (b1, 0)⟩, ⟨8, (k_aBits).v, t5⟩]) rfl (fun gs_ hg_ => by obtain rfl := len0 hg_; show LocX _ _ _ [rBox b1 72 k_aBits (aBits.mk 0 0 0)] _ (fun gh900_ => none) (fun gh900_ => [rBox b1 72 k_aBits t5]); exact e_stm (i := 0) (o_t rfl) (o_t rfl) rfl (Fld.refl _) sz72) (fun gs_ => .b rfl rfl (.d 3 rfl rfl (.nil))) .n (fun _ => rfl) rfl (fun _ _ _ => rfl) (.nil)))))) (fun gs_ hgs_ => ?_)
  obtain ⟨gh900_, rfl⟩ := len1 hgs_
  show Kx _ _ [rBox b1 72 k_aBits t5] _ _
  refine k_seq ?_
  cases hp_
  exact t_ret (k_frzb (s := 4) (i := 0) rfl rfl <| k_drop <| k_retc () rfl ty72 rfl rfl rfl rfl)
-- pointsman/bits.others$3
theorem ok142_0 (a : aBits) (b : aBits) (p2 : aBits) (y_ : aBits) (hp_ : bits_others_3 a b p2 = some y_) : FP Tryz.prog 142 [⟨(k_aBits).v, a⟩, ⟨(k_aBits).v, b⟩, ⟨vPtr k_aBits, p2⟩] ((k_aBits).v) y_ := by
  unfold bits_others_3 at hp_
  refine fc_of 36 Tryz.func142 rfl fn142 rfl (Nat.le_of_ble_eq_true rfl) fun I_ w_ F_ => ?_
  refine t_seq ?_
  refine t_reg ?_
  refine r_boxm (o_t rfl) (lt rfl) (fun b1 => ?_)
  refine st (l_box (o_t rfl) (lt rfl)) ?_
  refine r_alloc zr72 (lt rfl) (fun b3 => ?_)
  refine r_nil (k_seq ?_)
  refine t_seq ?_
  refine t_reg ?_
  refine st (l_fam (o_t rfl) fa72_0 (lt rfl)) ?_
  refine st (l_ldm (i := 0) (o_t rfl) rfl fl_aBits_0 ty3 (lt rfl)) ?_
  refine st (l_fa (o_t rfl) fl_aBits_0 fa72_0 (lt rfl)) ?_
  refine st (l_ld (o_t rfl) ty3 (lt rfl)) ?_
  refine st (l_bin (o_t rfl) (o_t rfl) .add (lt rfl)) ?_
  refine st (l_assign (o_t rfl) (lt rfl)) ?_
  refine r_nil (k_seq ?_)
  refine t_seq ?_
  refine t_seq ?_
  refine t_reg ?_
  refine st (l_move (o_t rfl) (lt rfl)) ?_
  refine st (l_cmp (o_t rfl) (o_i) .gtr (lt rfl)) ?_
  refine r_nil (k_seq ?_)
  rcases bt (decide ((IntKind.wrap .i64 (a.W + b.W)) > (128 : Int))) with hb5 | hb5
  · rw [if_neg (nt hb5)] at hp_
    refine t_iff (o_t rfl) hb5 ?_
    refine t_skip (k_seq ?_)
    refine t_seq ?_
    refine t_reg ?_
    refine st (l_fam (o_t rfl) fa72_1 (lt rfl)) ?_
    refine st (l_ldm (i := 0) (o_t rfl) rfl fl_aBits_1 ty70 (lt rfl)) ?_
    refine st (l_fam (o_t rfl) fa72_2 (lt rfl)) ?_
    refine st (l_ldm (i := 0) (o_t rfl) rfl fl_aBits_2 ty70 (lt rfl)) ?_
    refine st (l_build zr72 (.cons (o_i) fl_aBits_0 ft72_0 (.cons (o_t rfl) fl_aBits_1 ft72_1 (.cons (o_t rfl) fl_aBits_2 ft72_2 (.nil)))) rfl stb72 (lt rfl)) ?_
    refine st (l_fa (o_t rfl) fl_aBits_0 fa72_0 (lt rfl)) ?_
    refine st (l_ld (o_t rfl) ty3 (lt rfl)) ?_
    refine st (l_conv Tryz.underlying3 int156 (o_t rfl) (lt rfl)) ?_
    obtain ⟨t6, h7, hp_⟩ := bs hp_
    refine st (l_call (ok139 (aBits.mk (128 : Int) a.Hi a.Lo) (IntKind.wrap .u64 b.W) _ h7) (.cons (o_t rfl) (.cons (o_t rfl) (.nil))) (lt rfl)) ?_
    refine r_stm (i := 0) (o_t rfl) (o_t rfl) rfl (Fld.refl _) sz72 ?_
    refine r_nil (k_seq ?_)
    refine t_seq ?_
    refine t_reg ?_
    refine st (l_move (o_t rfl) (lt rfl)) ?_
    refine st (l_fam (o_t rfl) fa72_1 (lt rfl)) ?_
    refine st (l_ldm (i := 0) (o_t rfl) rfl fl_aBits_1 ty70 (lt rfl)) ?_
    refine st (l_fa (o_t rfl) fl_aBits_1 fa72_1 (lt rfl)) ?_
    refine st (l_ld (o_t rfl) ty70 (lt rfl)) ?_
    refine st (l_bin (o_t rfl) (o_t rfl) .or (lt rfl)) ?_
    refine st (l_fam (o_t rfl) fa72_2 (lt rfl)) ?_
    refine st (l_ldm (i := 0) (o_t rfl) rfl fl_aBits_2 ty70 (lt rfl)) ?_
    refine st (l_fa (o_t rfl) fl_aBits_2 fa72_2 (lt rfl)) ?_
    refine st (l_ld (o_t rfl) ty70 (lt rfl)) ?_
    refine st (l_bin (o_t rfl) (o_t rfl) .or (lt rfl)) ?_
    obtain ⟨t8, h9, hp_⟩ := bs hp_
    refine st (l_call (ok79 (IntKind.wrap .i64 (a.W + b.W)) (ior .u64 t6.Hi b.Hi) (ior .u64 t6.Lo b.Lo) _ h9) (.cons (o_t rfl) (.cons (o_t rfl) (.cons (o_t rfl) (.nil)))) (lt rfl)) ?_
    refine r_stm (i := 1) (o_t rfl) (o_t rfl) rfl (Fld.refl _) sz72 ?_
    refine r_nil (k_seq ?_)
    cases hp_
    exact t_ret (k_frzb (s := 5) (i := 1) rfl rfl <| k_drop <| k_retc () rfl ty72 rfl rfl rfl rfl)
  · rw [if_pos hb5] at hp_
    refine t_ift (o_t rfl) hb5 ?_
    refine t_seq ?_
    refine t_reg ?_
    refine st (l_ld (o_t rfl) ty72 (lt rfl)) ?_
    refine r_stm (i := 1) (o_t rfl) (o_t rfl) rfl (Fld.refl _) sz72 ?_
    refine r_nil (k_seq ?_)
    cases hp_
    exact t_ret (k_frzb (s := 5) (i := 1) rfl rfl <| k_tr <| k_drop <| k_retc () rfl ty72 rfl rfl rfl rfl)
-- pointsman/bits.others$4
theorem ok143_0 (a : aBits) (b : aBits) (p2 : aBits) (y_ : aBits) (hp_ : bits_others_4 a b p2 = some y_) : FP Tryz.prog 143 [⟨(k_aBits).v, a⟩, ⟨(k_aBits).v, b⟩, ⟨vPtr k_aBits, p2⟩] ((k_aBits).v) y_ := by
  unfold bits_others_4 at hp_
  refine fc_of 22 Tryz.func143 rfl fn143 rfl (Nat.le_of_ble_eq_true rfl) fun I_ w_ F_ => ?_
  refine t_seq ?_
  refine t_reg ?_
  refine st (l_box (o_t rfl) (lt rfl)) ?_
  refine st (l_box (o_t rfl) (lt rfl)) ?_
  refine r_alloc zr72 (lt rfl) (fun b1 => ?_)
  refine r_nil (k_seq ?_)
  refine t_seq ?_
  refine t_seq ?_
  refine t_reg ?_
  refine st (l_fa (o_t rfl) fl_aBits_0 fa72_0 (lt rfl)) ?_
  refine st (l_ld (o_t rfl) ty3 (lt rfl)) ?_
  refine st (l_cmp (o_t rfl) (o_i) .neq (lt rfl)) ?_
  refine st (l_move (o_t rfl) (lt rfl)) ?_
  rcases bt (a.W != (1 : Int)) with hb3 | hb3
  · rw [if_neg (nt hb3)] at hp_
    refine g_t rfl rfl hb3 ?_
    refine st (l_fa (o_t rfl) fl_aBits_0 fa72_0 (lt rfl)) ?_
    refine g_t rfl rfl hb3 ?_
    refine st (l_ld (o_t rfl) ty3 (lt rfl)) ?_
    refine g_t rfl rfl hb3 ?_
    refine st (l_cmp (o_t rfl) (o_i) .neq (lt rfl)) ?_
    refine st (l_pickf (o_t rfl) hb3 (o_t rfl) (lt rfl)) ?_
    refine r_nil (k_seq ?_)
    rcases bt (b.W != (1 : Int)) with hb4 | hb4
    · rw [if_neg (nt hb4)] at hp_
      refine t_iff (o_t rfl) hb4 ?_
      refine t_skip (k_seq ?_)
      refine t_seq ?_
      refine t_reg ?_
      refine st (l_fa (o_t rfl) fl_aBits_2 fa72_2 (lt rfl)) ?_
      refine st (l_ld (o_t rfl) ty70 (lt rfl)) ?_
      refine st (l_fa (o_t rfl) fl_aBits_2 fa72_2 (lt rfl)) ?_
      refine st (l_ld (o_t rfl) ty70 (lt rfl)) ?_
      refine st (l_bin (o_t rfl) (o_t rfl) .add (lt rfl)) ?_
      refine st (l_cmp (o_t rfl) (o_i) .eql (lt rfl)) ?_
      obtain ⟨t5, h6, hp_⟩ := bs hp_
      refine st (l_call (ok133 ((IntKind.wrap .u64 (a.Lo + b.Lo)) == (2 : Int)) _ h6) (.cons (o_t rfl) (.nil)) (lt rfl)) ?_
      refine r_stm (i := 0) (o_t rfl) (o_t rfl) rfl (Fld.refl _) sz72 ?_
      refine r_nil (k_seq ?_)
      cases hp_
      exact t_ret (k_frzb (s := 5) (i := 0) rfl rfl <| k_drop <| k_retc () rfl ty72 rfl rfl rfl rfl)
    · rw [if_pos hb4] at hp_
      refine t_ift (o_t rfl) hb4 ?_
      refine t_seq ?_
      refine t_reg ?_
      refine st (l_ld (o_t rfl) ty72 (lt rfl)) ?_
      refine r_stm (i := 0) (o_t rfl) (o_t rfl) rfl (Fld.refl _) sz72 ?_
      refine r_nil (k_seq ?_)
      cases hp_
      exact t_ret (k_frzb (s := 5) (i := 0) rfl rfl <| k_tr <| k_drop <| k_retc () rfl ty72 rfl rfl rfl rfl)
  · rw [if_pos hb3] at hp_
    refine g_n ⟨9, vBool, a.W != (1 : Int)⟩ rfl rfl (noy_b (b := false) hb3) (lt rfl) ?_
    refine g_n ⟨9, vBool, a.W != (1 : Int)⟩ rfl rfl (noy_b (b := false) hb3) (lt rfl) ?_
    refine g_n ⟨9, vBool, a.W != (1 : Int)⟩ rfl rfl (noy_b (b := false) hb3) (lt rfl) ?_
    refine st (l_pickt (o_t rfl) hb3 (o_b) (lt rfl)) ?_
    refine r_nil (k_seq ?_)
    refine t_ift (o_t rfl) rfl ?_
    refine t_seq ?_
    refine t_reg ?_
    refine st (l_ld (o_t rfl) ty72 (lt rfl)) ?_
    refine r_stm (i := 0) (o_t rfl) (o_t rfl) rfl (Fld.refl _) sz72 ?_
    refine r_nil (k_seq ?_)
    cases hp_
    exact t_ret (k_frzb (s := 5) (i := 0) rfl rfl <| k_tr <| k_drop <| k_retc () rfl ty72 rfl rfl rfl rfl)
-- pointsman/bits.others$5
theorem ok144_0 (a : aBits) (b : aBits) (p2 : aBits) (y_ : aBits) (hp_ : bits_others_5 a b p2 = some y_) : FP Tryz.prog 144 [⟨(k_aBits).v, a⟩, ⟨(k_aBits).v, b⟩, ⟨vPtr k_aBits, p2⟩] ((k_aBits).v) y_ := by
  unfold bits_others_5 at hp_
  refine fc_of 22 Tryz.func144 rfl fn144 rfl (Nat.le_of_ble_eq_true rfl) fun I_ w_ F_ => ?_
  refine t_seq ?_
  refine t_reg ?_
  refine st (l_box (o_t rfl) (lt rfl)) ?_
  refine st (l_box (o_t rfl) (lt rfl)) ?_
  refine r_alloc zr72 (lt rfl) (fun b1 => ?_)
  refine r_nil (k_seq ?_)
  refine t_seq ?_
  refine t_seq ?_
  refine t_reg ?_
  refine st (l_fa (o_t rfl) fl_aBits_0 fa72_0 (lt rfl)) ?_
  refine st (l_ld (o_t rfl) ty3 (lt rfl)) ?_
  refine st (l_cmp (o_t rfl) (o_i) .neq (lt rfl)) ?_
  refine st (l_move (o_t rfl) (lt rfl)) ?_
  rcases bt (a.W != (1 : Int)) with hb3 | hb3
  · rw [if_neg (nt hb3)] at hp_
    refine g_t rfl rfl hb3 ?_
    refine st (l_fa (o_t rfl) fl_aBits_0 fa72_0 (lt rfl)) ?_
    refine g_t rfl rfl hb3 ?_
    refine st (l_ld (o_t rfl) ty3 (lt rfl)) ?_
    refine g_t rfl rfl hb3 ?_
    refine st (l_cmp (o_t rfl) (o_i) .neq (lt rfl)) ?_
    refine st (l_pickf (o_t rfl) hb3 (o_t rfl) (lt rfl)) ?_
    refine r_nil (k_seq ?_)
    rcases bt (b.W != (1 : Int)) with hb4 | hb4
    · rw [if_neg (nt hb4)] at hp_
      refine t_iff (o_t rfl) hb4 ?_
      refine t_skip (k_seq ?_)
      refine t_seq ?_
      refine t_reg ?_
      refine st (l_fa (o_t rfl) fl_aBits_2 fa72_2 (lt rfl)) ?_
      refine st (l_ld (o_t rfl) ty70 (lt rfl)) ?_
      refine st (l_fa (o_t rfl) fl_aBits_2 fa72_2 (lt rfl)) ?_
      refine st (l_ld (o_t rfl) ty70 (lt rfl)) ?_
      refine st (l_bin (o_t rfl) (o_t rfl) .add (lt rfl)) ?_
      refine st (l_cmp (o_t rfl) (o_i) .gtr (lt rfl)) ?_
      obtain ⟨t5, h6, hp_⟩ := bs hp_
      refine st (l_call (ok133 (decide ((IntKind.wrap .u64 (a.Lo + b.Lo)) > (0 : Int))) _ h6) (.cons (o_t rfl) (.nil)) (lt rfl)) ?_
      refine r_stm (i := 0) (o_t rfl) (o_t rfl) rfl (Fld.refl _) sz72 ?_
      refine r_nil (k_seq ?_)
      cases hp_
      exact t_ret (k_frzb (s := 5) (i := 0) rfl rfl <| k_drop <| k_retc () rfl ty72 rfl rfl rfl rfl)
    · rw [if_pos hb4] at hp_
      refine t_ift (o_t rfl) hb4 ?_
      refine t_seq ?_
      refine t_reg ?_
      refine st (l_ld (o_t rfl) ty72 (lt rfl)) ?_
      refine r_stm (i := 0) (o_t rfl) (o_t rfl) rfl (Fld.refl _) sz72 ?_
      refine r_nil (k_seq ?_)
      cases hp_
      exact t_ret (k_frzb (s := 5) (i := 0) rfl rfl <| k_tr <| k_drop <| k_retc () rfl ty72 rfl rfl rfl rfl)
  · rw [if_pos hb3] at hp_
    refine g_n ⟨9, vBool, a.W != (1 : Int)⟩ rfl rfl (noy_b (b := false) hb3) (lt rfl) ?_
    refine g_n ⟨9, vBool, a.W != (1 : Int)⟩ rfl rfl (noy_b (b := false) hb3) (lt rfl) ?_
    refine g_n ⟨9, vBool, a.W != (1 : Int)⟩ rfl rfl (noy_b (b := false) hb3) (lt rfl) ?_
    refine st (l_pickt (o_t rfl) hb3 (o_b) (lt rfl)) ?_
    refine r_nil (k_seq ?_)
    refine t_ift (o_t rfl) rfl ?_
    refine t_seq ?_
    refine t_reg ?_
    refine st (l_ld (o_t rfl) ty72 (lt rfl)) ?_
    refine r_stm (i := 0) (o_t rfl) (o_t rfl) rfl (Fld.refl _) sz72 ?_
    refine r_nil (k_seq ?_)
    cases hp_
    exact t_ret (k_frzb (s := 5) (i := 0) rfl rfl <| k_tr <| k_drop <| k_retc () rfl ty72 rfl rfl rfl rfl)
-- pointsman/bits.others
theorem ok113  (y_ : List (Int × ((aBits × aBits) → Option aBits))) (hp_ : bits_others  = some y_) : FP Tryz.prog 113 [] ((kMap (kInt .u8) (kClo Tryz.prog (fun x : aBits × aBits => [⟨(k_aBits).v, x.1⟩, ⟨(k_aBits).v, x.2⟩]) ((k_aBits).v))).v) y_ := by
  unfold bits_others at hp_
  refine fc_of 8 Tryz.func113 rfl fn113 rfl (Nat.le_of_ble_eq_true rfl) fun I_ w_ F_ => ?_
  refine t_seq ?_
  refine t_reg ?_
  refine st (l_assign (o_nilm (K := kInt .u8) (V := kClo Tryz.prog (fun x : aBits × aBits => [⟨(k_aBits).v, x.1⟩, ⟨(k_aBits).v, x.2⟩]) ((k_aBits).v))) (lt rfl)) ?_
  refine r_nil (k_seq ?_)
  refine t_seq ?_
  refine t_reg ?_
  refine st (l_build zr72 (.nil) rfl stb72 (lt rfl)) ?_
  refine r_als zr72 (o_t rfl) rfl sz72 (lt rfl) ?_
  refine r_nil (k_seq ?_)
  refine t_seq ?_
  refine t_reg ?_
  refine r_mkmap (K := kInt .u8) (V := kClo Tryz.prog (fun x : aBits × aBits => [⟨(k_aBits).v, x.1⟩, ⟨(k_aBits).v, x.2⟩]) ((k_aBits).v)) (lt rfl) (fun o1 => ?_)
  refine r_mu (i := 0) (.inr rfl) mp153 (key_int (by kernel_rfl)) (o_t rfl) (o_i) (o_clo (o_fk) fn138 (fun x_ y h => ok138 x_.1 x_.2 _ h)) rfl ?_
  refine r_mu (i := 0) (.inr rfl) mp153 (key_int (by kernel_rfl)) (o_t rfl) (o_i) (o_clo (o_fk) fn141 (fun x_ y h => ok141 x_.1 x_.2 _ h)) rfl ?_
  refine st (l_mkf (.nil) (.cons (o_t rfl) (.nil)) (lt rfl)) ?_
  refine r_mu (i := 0) (.inr rfl) mp153 (key_int (by kernel_rfl)) (o_t rfl) (o_i) (o_clo (o_t rfl) fn142 (fun x_ y h => ok142_0 x_.1 x_.2 (aBits.mk 0 0 0) _ h)) rfl ?_
  refine st (l_mkf (.nil) (.cons (o_t rfl) (.nil)) (lt rfl)) ?_
  refine r_mu (i := 0) (.inr rfl) mp153 (key_int (by kernel_rfl)) (o_t rfl) (o_i) (o_clo (o_t rfl) fn143 (fun x_ y h => ok143_0 x_.1 x_.2 (aBits.mk 0 0 0) _ h)) rfl ?_
  refine st (l_mkf (.nil) (.cons (o_t rfl) (.nil)) (lt rfl)) ?_
  refine r_mu (i := 0) (.inr rfl) mp153 (key_int (by kernel_rfl)) (o_t rfl) (o_i) (o_clo (o_t rfl) fn144 (fun x_ y h => ok144_0 x_.1 x_.2 (aBits.mk 0 0 0) _ h)) rfl ?_
  refine st (l_move (o_t rfl) (lt rfl)) ?_
  refine st (l_assign (o_t rfl) (lt rfl)) ?_
  refine r_nil (k_seq ?_)
  cases hp_
  exact t_ret (k_frzm (s := 0) (i := 0) rfl rfl <| k_drop <| k_ret () rfl rfl rfl rfl rfl)
-- pointsman/bits.Of
theorem ok115 (w : Int) (hi : Int) (lo : Int) (y_ : aBits × Int × Unit) (hp_ : bits_Of w hi lo = some y_) : FP Tryz.prog 115 [⟨vInt .i64, w⟩, ⟨vInt .u64, hi⟩, ⟨vInt .u64, lo⟩] (vTup (vlCons ((k_aBits).v) (vlCons (vInt .i64) vlNil))) y_ := by
  unfold bits_Of at hp_
  refine fc_of 16 Tryz.func115 rfl fn115 rfl (Nat.le_of_ble_eq_true rfl) fun I_ w_ F_ => ?_
  refine t_seq ?_
  refine t_reg ?_
  refine r_alloc zr72 (lt rfl) (fun b1 => ?_)
  refine st (l_assign (o_i) (lt rfl)) ?_
  refine r_nil (k_seq ?_)
  refine t_seq ?_
  refine t_seq ?_
  refine t_reg ?_
  refine st (l_move (o_t rfl) (lt rfl)) ?_
  obtain ⟨t3, h4, hp_⟩ := bs hp_
  refine st (l_call (ok78 w _ h4) (.cons (o_t rfl) (.nil)) (lt rfl)) ?_
  refine st (l_not (o_t rfl) (lt rfl)) ?_
  refine r_nil (k_seq ?_)
  rcases bt (!t3) with hb5 | hb5
  · rw [if_neg (nt hb5)] at hp_
    refine t_iff (o_t rfl) hb5 ?_
    refine t_skip (k_seq ?_)
    refine t_seq ?_
    refine t_reg ?_
    refine st (l_move (o_t rfl) (lt rfl)) ?_
    refine st (l_move (o_t rfl) (lt rfl)) ?_
    refine st (l_move (o_t rfl) (lt rfl)) ?_
    obtain ⟨t6, h7, hp_⟩ := bs hp_
    refine st (l_call (ok79 w hi lo _ h7) (.cons (o_t rfl) (.cons (o_t rfl) (.cons (o_t rfl) (.nil)))) (lt rfl)) ?_
    refine r_stm (i := 0) (o_t rfl) (o_t rfl) rfl (Fld.refl _) sz72 ?_
    refine st (l_assign (o_i) (lt rfl)) ?_
    refine r_nil (k_seq ?_)
    cases hp_
    exact t_ret (k_frzb (s := 6) (i := 0) rfl rfl <| k_drop <| k_rets2 () rfl rfl (.cell ty72 rfl (.cons rfl .nil)) rfl rfl rfl)
  · rw [if_pos hb5] at hp_
    refine t_ift (o_t rfl) hb5 ?_
    refine t_seq ?_
    refine t_reg ?_
    refine st (l_build zr72 (.nil) rfl stb72 (lt rfl)) ?_
    refine r_stm (i := 0) (o_t rfl) (o_t rfl) rfl (Fld.refl _) sz72 ?_
    refine st (l_assign (o_i) (lt rfl)) ?_
    refine r_nil (k_seq ?_)
    cases hp_
    exact t_ret (k_frzb (s := 6) (i := 0) rfl rfl <| k_tr <| k_drop <| k_rets2 () rfl rfl (.cell ty72 rfl (.cons rfl .nil)) rfl rfl rfl)
-- pointsman/bits.Do
theorem ok107 (p0 : Int) (p1 : aBits) (p2 : aBits) (p3 : Int) (p4 : Int) (y_ : aBits × Int × Unit) (hp_ : bits_Do p0 p1 p2 p3 p4 = some y_) : FP Tryz.prog 107 [⟨vInt .u8, p0⟩, ⟨(k_aBits).v, p1⟩, ⟨(k_aBits).v, p2⟩, ⟨vInt .i64, p3⟩, ⟨vInt .i64, p4⟩] (vTup (vlCons ((k_aBits).v) (vlCons (vInt .i64) vlNil))) y_ := by
  unfold bits_Do at hp_
  refine fc_of 121 Tryz.func107 rfl fn107 rfl (Nat.le_of_ble_eq_true rfl) fun I_ w_ F_ => ?_
  refine t_seq ?_
  refine t_reg ?_
  refine r_boxm (o_t rfl) (lt rfl) (fun b1 => ?_)
  refine st (l_box (o_t rfl) (lt rfl)) ?_
  refine r_alloc zr72 (lt rfl) (fun b3 => ?_)
  refine st (l_assign (o_i) (lt rfl)) ?_
  refine r_nil (k_seq ?_)
  refine t_seq ?_
  refine t_reg ?_
  obtain ⟨t5, h6, hp_⟩ := bs hp_
  refine st (l_call (ok112  _ h6) (.nil) (lt rfl)) ?_
  refine st (l_move (o_t rfl) (lt rfl)) ?_
  refine st (l_lkiok mp153 (key_int (by kernel_rfl)) zr151 (o_t rfl) (o_t rfl) (lt rfl)) ?_
  refine st (l_move (o_t rfl) (lt rfl)) ?_
  refine st (l_ext (x := ((mget (fun x y => x == y) p0 t5).getD (fun _ => none), (mget (fun x y => x == y) p0 t5).isSome, ())) (L := (vlCons (vClo Tryz.prog (fun x : aBits × aBits => [⟨(k_aBits).v, x.1⟩, ⟨(k_aBits).v, x.2⟩]) ((k_aBits).v)) (vlCons vBool vlNil))) (get := fun x => x.1) (o_t rfl) VGet.z (lt rfl)) ?_
  refine st (l_ext (x := ((mget (fun x y => x == y) p0 t5).getD (fun _ => none), (mget (fun x y => x == y) p0 t5).isSome, ())) (L := (vlCons (vClo Tryz.prog (fun x : aBits × aBits => [⟨(k_aBits).v, x.1⟩, ⟨(k_aBits).v, x.2⟩]) ((k_aBits).v)) (vlCons vBool vlNil))) (get := fun x => x.2.1) (o_t rfl) (VGet.s VGet.z) (lt rfl)) ?_
  refine st (l_assign (o_t rfl) (lt rfl)) ?_
  refine st (l_assign (o_t rfl) (lt rfl)) ?_
  refine r_nil (k_seq ?_)
  refine t_seq ?_
  refine t_reg ?_
  obtain ⟨t7, h8, hp_⟩ := bs hp_
  refine st (l_call (ok113  _ h8) (.nil) (lt rfl)) ?_
  refine st (l_move (o_t rfl) (lt rfl)) ?_
  refine st (l_lkiok mp153 (key_int (by kernel_rfl)) zr151 (o_t rfl) (o_t rfl) (lt rfl)) ?_
  refine st (l_move (o_t rfl) (lt rfl)) ?_
  refine st (l_ext (x := ((mget (fun x y => x == y) p0 t7).getD (fun _ => none), (mget (fun x y => x == y) p0 t7).isSome, ())) (L := (vlCons (vClo Tryz.prog (fun x : aBits × aBits => [⟨(k_aBits).v, x.1⟩, ⟨(k_aBits).v, x.2⟩]) ((k_aBits).v)) (vlCons vBool vlNil))) (get := fun x => x.1) (o_t rfl) VGet.z (lt rfl)) ?_
  refine st (l_ext (x := ((mget (fun x y => x == y) p0 t7).getD (fun _ => none), (mget (fun x y => x == y) p0 t7).isSome, ())) (L := (vlCons (vClo Tryz.prog (fun x : aBits × aBits => [⟨(k_aBits).v, x.1⟩, ⟨(k_aBits).v, x.2⟩]) ((k_aBits).v)) (vlCons vBool vlNil))) (get := fun x => x.2.1) (o_t rfl) (VGet.s VGet.z) (lt rfl)) ?_
  refine st (l_assign (o_t rfl) (lt rfl)) ?_
  refine st (l_assign (o_t rfl) (lt rfl)) ?_
  refine r_nil (k_seq ?_)
  refine t_seq ?_
  refine t_blk ?_
  refine t_seq ?_
  refine t_seq ?_
  refine t_reg ?_
  refine st (l_move (o_t rfl) (lt rfl)) ?_
  refine st (l_move (o_t rfl) (lt rfl)) ?_
  rcases bt (((mget (fun x y => x == y) p0 t5).getD (fun _ => none), (mget (fun x y => x == y) p0 t5).isSome, ()).2.1) with hb9 | hb9
  · rw [if_neg (nt hb9)] at hp_
    refine g_t rfl rfl hb9 ?_
    refine st (l_move (o_t rfl) (lt rfl)) ?_
    refine st (l_pickf (o_t rfl) hb9 (o_t rfl) (lt rfl)) ?_
    refine st (l_move (o_t rfl) (lt rfl)) ?_
    rcases bt (((mget (fun x y => x == y) p0 t7).getD (fun _ => none), (mget (fun x y => x == y) p0 t7).isSome, ()).2.1) with hb10 | hb10
    · rw [if_neg (nt hb10)] at hp_
      refine g_n ⟨34, vBool, ((mget (fun x y => x == y) p0 t7).getD (fun _ => none), (mget (fun x y => x == y) p0 t7).isSome, ()).2.1⟩ rfl rfl (noy_b (b := true) hb10) (lt rfl) ?_
      refine g_n ⟨34, vBool, ((mget (fun x y => x == y) p0 t7).getD (fun _ => none), (mget (fun x y => x == y) p0 t7).isSome, ()).2.1⟩ rfl rfl (noy_b (b := true) hb10) (lt rfl) ?_
      refine g_n ⟨34, vBool, ((mget (fun x y => x == y) p0 t7).getD (fun _ => none), (mget (fun x y => x == y) p0 t7).isSome, ()).2.1⟩ rfl rfl (noy_b (b := true) hb10) (lt rfl) ?_
      refine st (l_pickf (o_t rfl) hb10 (o_b) (lt rfl)) ?_
      refine st (l_assign (o_t rfl) (lt rfl)) ?_
      refine r_nil (k_seq ?_)
      obtain ⟨res1_, hl1_, hx1_⟩ := bs hp_
      clear hp_
      refine t_join (σ := Bool) (fun x_ => [⟨0, vInt .u8, p0⟩, ⟨3, vInt .i64, p3⟩, ⟨4, vInt .i64, p4⟩, ⟨6, vLoc, (b1, 0)⟩, ⟨7, vPtr k_aBits, p2⟩, ⟨10, vLoc, (b3, 0)⟩, ⟨12, vClo Tryz.prog (fun x : aBits × aBits => [⟨(k_aBits).v, x.1⟩, ⟨(k_aBits).v, x.2⟩]) ((k_aBits).v), ((mget (fun x y => x == y) p0 t5).getD (fun _ => none), (mget (fun x y => x == y) p0 t5).isSome, ()).1⟩, ⟨13, vBool, ((mget (fun x y => x == y) p0 t5).getD (fun _ => none), (mget (fun x y => x == y) p0 t5).isSome, ()).2.1⟩, ⟨14, vClo Tryz.prog (fun x : aBits × aBits => [⟨(k_aBits).v, x.1⟩, ⟨(k_aBits).v, x.2⟩]) ((k_aBits).v), ((mget (fun x y => x == y) p0 t7).getD (fun _ => none), (mget (fun x y => x == y) p0 t7).isSome, ()).1⟩, ⟨15, vBool, ((mget (fun x y => x == y) p0 t7).getD (fun _ => none), (mget (fun x y => x == y) p0 t7).isSome, ()).2.1⟩, ⟨29, vBool, x_⟩]) (fun x_ => [rBox b1 72 k_aBits p1, rBox b3 72 k_aBits (aBits.mk 0 0 0)]) (fun x_ => res1_ = x_) ?_ ?_
      · skip
        refine t_iff (o_t rfl) rfl ?_
        refine t_reg ?_
        refine st (l_ldm (i := 0) (o_t rfl) rfl (Fld.refl _) ty72 (lt rfl)) ?_
        obtain ⟨t11, h12, hl1_⟩ := bs hl1_
        refine st (l_call (ok57 p1 _ h12) (.cons (o_t rfl) (.nil)) (lt rfl)) ?_
        refine st (l_not (o_t rfl) (lt rfl)) ?_
        refine st (l_assign (o_t rfl) (lt rfl)) ?_
        exact r_nil (k_brk (!t11) (Option.some.inj hl1_).symm (Sub.cons rfl (Sub.cons rfl (Sub.cons rfl (Sub.cons rfl (Sub.cons rfl (Sub.cons rfl (Sub.cons rfl (Sub.cons rfl (Sub.cons rfl (Sub.cons rfl (Sub.cons rfl (Sub.nil _)))))))))))) rfl)
      · intro s1_ hs1_
        replace hs1_ : s1_ = res1_ := Eq.symm hs1_
        subst hs1_
        have hp_ := hx1_
        clear hx1_
        show Kx _ [⟨0, vInt .u8, p0⟩, ⟨3, vInt .i64, p3⟩, ⟨4, vInt .i64, p4⟩, ⟨6, vLoc, (b1, 0)⟩, ⟨7, vPtr k_aBits, p2⟩, ⟨10, vLoc, (b3, 0)⟩, ⟨12, vClo Tryz.prog (fun x : aBits × aBits => [⟨(k_aBits).v, x.1⟩, ⟨(k_aBits).v, x.2⟩]) ((k_aBits).v), ((mget (fun x y => x == y) p0 t5).getD (fun _ => none), (mget (fun x y => x == y) p0 t5).isSome, ()).1⟩, ⟨13, vBool, ((mget (fun x y => x == y) p0 t5).getD (fun _ => none), (mget (fun x y => x == y) p0 t5).isSome, ()).2.1⟩, ⟨14, vClo Tryz.prog (fun x : aBits × aBits => [⟨(k_aBits).v, x.1⟩, ⟨(k_aBits).v, x.2⟩]) ((k_aBits).v), ((mget (fun x y => x == y) p0 t7).getD (fun _ => none), (mget (fun x y => x == y) p0 t7).isSome, ()).1⟩, ⟨15, vBool, ((mget (fun x y => x == y) p0 t7).getD (fun _ => none), (mget (fun x y => x == y) p0 t7).isSome, ()).2.1⟩, ⟨29, vBool, s1_⟩] [rBox b1 72 k_aBits p1, rBox b3 72 k_aBits (aBits.mk 0 0 0)] _ _
        refine k_seq ?_
        rcases bt (s1_) with hb13 | hb13
        · rw [if_neg (nt hb13)] at hp_
          refine t_iff (o_t rfl) hb13 ?_
          refine t_seq ?_
          refine t_reg ?_
          refine st (l_move (o_t rfl) (lt rfl)) ?_
          refine st (l_assign (o_t rfl) (lt rfl)) ?_
          refine r_nil (k_seq ?_)
          refine t_iff (o_t rfl) hb9 ?_
          refine t_seq ?_
          refine t_reg ?_
          refine st (l_move (o_t rfl) (lt rfl)) ?_
          refine st (l_assign (o_t rfl) (lt rfl)) ?_
          refine r_nil (k_seq ?_)
          refine t_iff (o_t rfl) hb10 ?_
          refine t_seq ?_
          refine t_reg ?_
          refine st (l_move (o_t rfl) (lt rfl)) ?_
          refine st (l_cmp (o_t rfl) (o_i) .eql (lt rfl)) ?_
          refine st (l_assign (o_t rfl) (lt rfl)) ?_
          refine r_nil (k_seq ?_)
          rcases bt (p0 == (11 : Int)) with hb14 | hb14
          · rw [if_neg (nt hb14)] at hp_
            refine t_iff (o_t rfl) hb14 ?_
            refine t_seq ?_
            refine t_reg ?_
            refine st (l_move (o_t rfl) (lt rfl)) ?_
            refine st (l_cmp (o_t rfl) (o_i) .eql (lt rfl)) ?_
            refine st (l_move (o_t rfl) (lt rfl)) ?_
            rcases bt (p0 == (15 : Int)) with hb15 | hb15
            · rw [if_neg (nt hb15)] at hp_
              refine g_n ⟨81, vBool, p0 == (15 : Int)⟩ rfl rfl (noy_b (b := true) hb15) (lt rfl) ?_
              refine g_n ⟨81, vBool, p0 == (15 : Int)⟩ rfl rfl (noy_b (b := true) hb15) (lt rfl) ?_
              refine st (l_pickf (o_t rfl) hb15 (o_b) (lt rfl)) ?_
              refine st (l_move (o_t rfl) (lt rfl)) ?_
              refine g_n ⟨85, vBool, false⟩ rfl rfl (noy_b (b := true) rfl) (lt rfl) ?_
              refine g_n ⟨85, vBool, false⟩ rfl rfl (noy_b (b := true) rfl) (lt rfl) ?_
              refine g_n ⟨85, vBool, false⟩ rfl rfl (noy_b (b := true) rfl) (lt rfl) ?_
              refine st (l_pickf (o_t rfl) rfl (o_b) (lt rfl)) ?_
              refine st (l_move (o_t rfl) (lt rfl)) ?_
              refine g_n ⟨90, vBool, false⟩ rfl rfl (noy_b (b := true) rfl) (lt rfl) ?_
              refine g_n ⟨90, vBool, false⟩ rfl rfl (noy_b (b := true) rfl) (lt rfl) ?_
              refine g_n ⟨90, vBool, false⟩ rfl rfl (noy_b (b := true) rfl) (lt rfl) ?_
              refine g_n ⟨90, vBool, false⟩ rfl rfl (noy_b (b := true) rfl) (lt rfl) ?_
              refine st (l_pickf (o_t rfl) rfl (o_b) (lt rfl)) ?_
              refine st (l_assign (o_t rfl) (lt rfl)) ?_
              refine r_nil (k_seq ?_)
              refine t_iff (o_t rfl) rfl ?_
              refine t_seq ?_
              refine t_reg ?_
              refine st (l_move (o_t rfl) (lt rfl)) ?_
              refine st (l_cmp (o_t rfl) (o_i) .eql (lt rfl)) ?_
              refine st (l_assign (o_t rfl) (lt rfl)) ?_
              refine r_nil (k_seq ?_)
              rcases bt (p0 == (16 : Int)) with hb16 | hb16
              · rw [if_neg (nt hb16)] at hp_
                refine t_iff (o_t rfl) hb16 ?_
                refine t_skip (k_bn <| k_seq ?_)
                refine t_seq ?_
                refine t_reg ?_
                refine st (l_build zr72 (.nil) rfl stb72 (lt rfl)) ?_
                refine r_stm (i := 1) (o_t rfl) (o_t rfl) rfl (Fld.refl _) sz72 ?_
                refine st (l_assign (o_i) (lt rfl)) ?_
                refine r_nil (k_seq ?_)
                cases hp_
                exact t_ret (k_frzb (s := 10) (i := 1) rfl rfl <| k_drop <| k_rets2 () rfl rfl (.cell ty72 rfl (.cons rfl .nil)) rfl rfl rfl)
              · rw [if_pos hb16] at hp_
                refine t_ift (o_t rfl) hb16 ?_
                refine t_seq ?_
                refine t_reg ?_
                refine st (l_move (o_t rfl) (lt rfl)) ?_
                refine st (l_fam (o_t rfl) fa72_1 (lt rfl)) ?_
                refine st (l_ldm (i := 0) (o_t rfl) rfl fl_aBits_1 ty70 (lt rfl)) ?_
                refine st (l_fam (o_t rfl) fa72_2 (lt rfl)) ?_
                refine st (l_ldm (i := 0) (o_t rfl) rfl fl_aBits_2 ty70 (lt rfl)) ?_
                obtain ⟨t17, h18, hp_⟩ := bs hp_
                refine st (l_call (ok115 p3 p1.Hi p1.Lo _ h18) (.cons (o_t rfl) (.cons (o_t rfl) (.cons (o_t rfl) (.nil)))) (lt rfl)) ?_
                refine st (l_ext (x := t17) (L := (vlCons ((k_aBits).v) (vlCons (vInt .i64) vlNil))) (get := fun x => x.1) (o_t rfl) VGet.z (lt rfl)) ?_
                refine st (l_ext (x := t17) (L := (vlCons ((k_aBits).v) (vlCons (vInt .i64) vlNil))) (get := fun x => x.2.1) (o_t rfl) (VGet.s VGet.z) (lt rfl)) ?_
                refine r_stm (i := 1) (o_t rfl) (o_t rfl) rfl (Fld.refl _) sz72 ?_
                refine st (l_assign (o_t rfl) (lt rfl)) ?_
                refine r_nil (k_seq ?_)
                cases hp_
                exact t_ret (k_frzb (s := 10) (i := 1) rfl rfl <| k_br <| k_tr <| k_drop <| k_rets2 () rfl rfl (.cell ty72 rfl (.cons rfl .nil)) rfl rfl rfl)
            · rw [if_pos hb15] at hp_
              refine g_t rfl rfl hb15 ?_
              refine st (l_move (o_t rfl) (lt rfl)) ?_
              refine g_t rfl rfl hb15 ?_
              refine st (l_cmp (o_t rfl) (o_i) .geq (lt rfl)) ?_
              refine st (l_pickt (o_t rfl) hb15 (o_t rfl) (lt rfl)) ?_
              refine st (l_move (o_t rfl) (lt rfl)) ?_
              rcases bt (decide (p4 ≥ (0 : Int))) with hb19 | hb19
              · rw [if_neg (nt hb19)] at hp_
                refine g_n ⟨85, vBool, decide (p4 ≥ (0 : Int))⟩ rfl rfl (noy_b (b := true) hb19) (lt rfl) ?_
                refine g_n ⟨85, vBool, decide (p4 ≥ (0 : Int))⟩ rfl rfl (noy_b (b := true) hb19) (lt rfl) ?_
                refine g_n ⟨85, vBool, decide (p4 ≥ (0 : Int))⟩ rfl rfl (noy_b (b := true) hb19) (lt rfl) ?_
                refine st (l_pickf (o_t rfl) hb19 (o_b) (lt rfl)) ?_
                refine st (l_move (o_t rfl) (lt rfl)) ?_
                refine g_n ⟨90, vBool, false⟩ rfl rfl (noy_b (b := true) rfl) (lt rfl) ?_
                refine g_n ⟨90, vBool, false⟩ rfl rfl (noy_b (b := true) rfl) (lt rfl) ?_
                refine g_n ⟨90, vBool, false⟩ rfl rfl (noy_b (b := true) rfl) (lt rfl) ?_
                refine g_n ⟨90, vBool, false⟩ rfl rfl (noy_b (b := true) rfl) (lt rfl) ?_
                refine st (l_pickf (o_t rfl) rfl (o_b) (lt rfl)) ?_
                refine st (l_assign (o_t rfl) (lt rfl)) ?_
                refine r_nil (k_seq ?_)
                refine t_iff (o_t rfl) rfl ?_
                refine t_seq ?_
                refine t_reg ?_
                refine st (l_move (o_t rfl) (lt rfl)) ?_
                refine st (l_cmp (o_t rfl) (o_i) .eql (lt rfl)) ?_
                refine st (l_assign (o_t rfl) (lt rfl)) ?_
                refine r_nil (k_seq ?_)
                rcases bt (p0 == (16 : Int)) with hb20 | hb20
                · rw [if_neg (nt hb20)] at hp_
                  refine t_iff (o_t rfl) hb20 ?_
                  refine t_skip (k_bn <| k_seq ?_)
                  refine t_seq ?_
                  refine t_reg ?_
                  refine st (l_build zr72 (.nil) rfl stb72 (lt rfl)) ?_
                  refine r_stm (i := 1) (o_t rfl) (o_t rfl) rfl (Fld.refl _) sz72 ?_
                  refine st (l_assign (o_i) (lt rfl)) ?_
                  refine r_nil (k_seq ?_)
                  cases hp_
                  exact t_ret (k_frzb (s := 10) (i := 1) rfl rfl <| k_drop <| k_rets2 () rfl rfl (.cell ty72 rfl (.cons rfl .nil)) rfl rfl rfl)
                · rw [if_pos hb20] at hp_
                  refine t_ift (o_t rfl) hb20 ?_
                  refine t_seq ?_
                  refine t_reg ?_
                  refine st (l_move (o_t rfl) (lt rfl)) ?_
                  refine st (l_fam (o_t rfl) fa72_1 (lt rfl)) ?_
                  refine st (l_ldm (i := 0) (o_t rfl) rfl fl_aBits_1 ty70 (lt rfl)) ?_
                  refine st (l_fam (o_t rfl) fa72_2 (lt rfl)) ?_
                  refine st (l_ldm (i := 0) (o_t rfl) rfl fl_aBits_2 ty70 (lt rfl)) ?_
                  obtain ⟨t21, h22, hp_⟩ := bs hp_
                  refine st (l_call (ok115 p3 p1.Hi p1.Lo _ h22) (.cons (o_t rfl) (.cons (o_t rfl) (.cons (o_t rfl) (.nil)))) (lt rfl)) ?_
                  refine st (l_ext (x := t21) (L := (vlCons ((k_aBits).v) (vlCons (vInt .i64) vlNil))) (get := fun x => x.1) (o_t rfl) VGet.z (lt rfl)) ?_
                  refine st (l_ext (x := t21) (L := (vlCons ((k_aBits).v) (vlCons (vInt .i64) vlNil))) (get := fun x => x.2.1) (o_t rfl) (VGet.s VGet.z) (lt rfl)) ?_
                  refine r_stm (i := 1) (o_t rfl) (o_t rfl) rfl (Fld.refl _) sz72 ?_
                  refine st (l_assign (o_t rfl) (lt rfl)) ?_
                  refine r_nil (k_seq ?_)
                  cases hp_
                  exact t_ret (k_frzb (s := 10) (i := 1) rfl rfl <| k_br <| k_tr <| k_drop <| k_rets2 () rfl rfl (.cell ty72 rfl (.cons rfl .nil)) rfl rfl rfl)
              · rw [if_pos hb19] at hp_
                refine g_t rfl rfl hb19 ?_
                refine st (l_move (o_t rfl) (lt rfl)) ?_
                refine g_t rfl rfl hb19 ?_
                refine st (l_move (o_t rfl) (lt rfl)) ?_
                refine g_t rfl rfl hb19 ?_
                refine st (l_cmp (o_t rfl) (o_t rfl) .leq (lt rfl)) ?_
                refine st (l_pickt (o_t rfl) hb19 (o_t rfl) (lt rfl)) ?_
                refine st (l_move (o_t rfl) (lt rfl)) ?_
                rcases bt (decide (p4 ≤ p3)) with hb23 | hb23
                · rw [if_neg (nt hb23)] at hp_
                  refine g_n ⟨90, vBool, decide (p4 ≤ p3)⟩ rfl rfl (noy_b (b := true) hb23) (lt rfl) ?_
                  refine g_n ⟨90, vBool, decide (p4 ≤ p3)⟩ rfl rfl (noy_b (b := true) hb23) (lt rfl) ?_
                  refine g_n ⟨90, vBool, decide (p4 ≤ p3)⟩ rfl rfl (noy_b (b := true) hb23) (lt rfl) ?_
                  refine g_n ⟨90, vBool, decide (p4 ≤ p3)⟩ rfl rfl (noy_b (b := true) hb23) (lt rfl) ?_
                  refine st (l_pickf (o_t rfl) hb23 (o_b) (lt rfl)) ?_
                  refine st (l_assign (o_t rfl) (lt rfl)) ?_
                  refine r_nil (k_seq ?_)
                  refine t_iff (o_t rfl) rfl ?_
                  refine t_seq ?_
                  refine t_reg ?_
                  refine st (l_move (o_t rfl) (lt rfl)) ?_
                  refine st (l_cmp (o_t rfl) (o_i) .eql (lt rfl)) ?_
                  refine st (l_assign (o_t rfl) (lt rfl)) ?_
                  refine r_nil (k_seq ?_)
                  rcases bt (p0 == (16 : Int)) with hb24 | hb24
                  · rw [if_neg (nt hb24)] at hp_
                    refine t_iff (o_t rfl) hb24 ?_
                    refine t_skip (k_bn <| k_seq ?_)
                    refine t_seq ?_
                    refine t_reg ?_
                    refine st (l_build zr72 (.nil) rfl stb72 (lt rfl)) ?_
                    refine r_stm (i := 1) (o_t rfl) (o_t rfl) rfl (Fld.refl _) sz72 ?_
                    refine st (l_assign (o_i) (lt rfl)) ?_
                    refine r_nil (k_seq ?_)
                    cases hp_
                    exact t_ret (k_frzb (s := 10) (i := 1) rfl rfl <| k_drop <| k_rets2 () rfl rfl (.cell ty72 rfl (.cons rfl .nil)) rfl rfl rfl)
                  · rw [if_pos hb24] at hp_
                    refine t_ift (o_t rfl) hb24 ?_
                    refine t_seq ?_
                    refine t_reg ?_
                    refine st (l_move (o_t rfl) (lt rfl)) ?_
                    refine st (l_fam (o_t rfl) fa72_1 (lt rfl)) ?_
                    refine st (l_ldm (i := 0) (o_t rfl) rfl fl_aBits_1 ty70 (lt rfl)) ?_
                    refine st (l_fam (o_t rfl) fa72_2 (lt rfl)) ?_
                    refine st (l_ldm (i := 0) (o_t rfl) rfl fl_aBits_2 ty70 (lt rfl)) ?_
                    obtain ⟨t25, h26, hp_⟩ := bs hp_
                    refine st (l_call (ok115 p3 p1.Hi p1.Lo _ h26) (.cons (o_t rfl) (.cons (o_t rfl) (.cons (o_t rfl) (.nil)))) (lt rfl)) ?_
                    refine st (l_ext (x := t25) (L := (vlCons ((k_aBits).v) (vlCons (vInt .i64) vlNil))) (get := fun x => x.1) (o_t rfl) VGet.z (lt rfl)) ?_
                    refine st (l_ext (x := t25) (L := (vlCons ((k_aBits).v) (vlCons (vInt .i64) vlNil))) (get := fun x => x.2.1) (o_t rfl) (VGet.s VGet.z) (lt rfl)) ?_
                    refine r_stm (i := 1) (o_t rfl) (o_t rfl) rfl (Fld.refl _) sz72 ?_
                    refine st (l_assign (o_t rfl) (lt rfl)) ?_
                    refine r_nil (k_seq ?_)
                    cases hp_
                    exact t_ret (k_frzb (s := 10) (i := 1) rfl rfl <| k_br <| k_tr <| k_drop <| k_rets2 () rfl rfl (.cell ty72 rfl (.cons rfl .nil)) rfl rfl rfl)
                · rw [if_pos hb23] at hp_
                  refine g_t rfl rfl hb23 ?_
                  refine st (l_move (o_t rfl) (lt rfl)) ?_
                  refine g_t rfl rfl hb23 ?_
                  refine st (l_fam (o_t rfl) fa72_0 (lt rfl)) ?_
                  refine g_t rfl rfl hb23 ?_
                  refine st (l_ldm (i := 0) (o_t rfl) rfl fl_aBits_0 ty3 (lt rfl)) ?_
                  refine g_t rfl rfl hb23 ?_
                  refine st (l_cmp (o_t rfl) (o_t rfl) .lss (lt rfl)) ?_
                  refine st (l_pickt (o_t rfl) hb23 (o_t rfl) (lt rfl)) ?_
                  refine st (l_assign (o_t rfl) (lt rfl)) ?_
                  refine r_nil (k_seq ?_)
                  rcases bt (decide (p3 < p1.W)) with hb27 | hb27
                  · rw [if_neg (nt hb27)] at hp_
                    refine t_iff (o_t rfl) hb27 ?_
                    refine t_seq ?_
                    refine t_reg ?_
                    refine st (l_move (o_t rfl) (lt rfl)) ?_
                    refine st (l_cmp (o_t rfl) (o_i) .eql (lt rfl)) ?_
                    refine st (l_assign (o_t rfl) (lt rfl)) ?_
                    refine r_nil (k_seq ?_)
                    rcases bt (p0 == (16 : Int)) with hb28 | hb28
                    · rw [if_neg (nt hb28)] at hp_
                      refine t_iff (o_t rfl) hb28 ?_
                      refine t_skip (k_bn <| k_seq ?_)
                      refine t_seq ?_
                      refine t_reg ?_
                      refine st (l_build zr72 (.nil) rfl stb72 (lt rfl)) ?_
                      refine r_stm (i := 1) (o_t rfl) (o_t rfl) rfl (Fld.refl _) sz72 ?_
                      refine st (l_assign (o_i) (lt rfl)) ?_
                      refine r_nil (k_seq ?_)
                      cases hp_
                      exact t_ret (k_frzb (s := 10) (i := 1) rfl rfl <| k_drop <| k_rets2 () rfl rfl (.cell ty72 rfl (.cons rfl .nil)) rfl rfl rfl)
                    · rw [if_pos hb28] at hp_
                      refine t_ift (o_t rfl) hb28 ?_
                      refine t_seq ?_
                      refine t_reg ?_
                      refine st (l_move (o_t rfl) (lt rfl)) ?_
                      refine st (l_fam (o_t rfl) fa72_1 (lt rfl)) ?_
                      refine st (l_ldm (i := 0) (o_t rfl) rfl fl_aBits_1 ty70 (lt rfl)) ?_
                      refine st (l_fam (o_t rfl) fa72_2 (lt rfl)) ?_
                      refine st (l_ldm (i := 0) (o_t rfl) rfl fl_aBits_2 ty70 (lt rfl)) ?_
                      obtain ⟨t29, h30, hp_⟩ := bs hp_
                      refine st (l_call (ok115 p3 p1.Hi p1.Lo _ h30) (.cons (o_t rfl) (.cons (o_t rfl) (.cons (o_t rfl) (.nil)))) (lt rfl)) ?_
                      refine st (l_ext (x := t29) (L := (vlCons ((k_aBits).v) (vlCons (vInt .i64) vlNil))) (get := fun x => x.1) (o_t rfl) VGet.z (lt rfl)) ?_
                      refine st (l_ext (x := t29) (L := (vlCons ((k_aBits).v) (vlCons (vInt .i64) vlNil))) (get := fun x => x.2.1) (o_t rfl) (VGet.s VGet.z) (lt rfl)) ?_
                      refine r_stm (i := 1) (o_t rfl) (o_t rfl) rfl (Fld.refl _) sz72 ?_
                      refine st (l_assign (o_t rfl) (lt rfl)) ?_
                      refine r_nil (k_seq ?_)
                      cases hp_
                      exact t_ret (k_frzb (s := 10) (i := 1) rfl rfl <| k_br <| k_tr <| k_drop <| k_rets2 () rfl rfl (.cell ty72 rfl (.cons rfl .nil)) rfl rfl rfl)
                  · rw [if_pos hb27] at hp_
                    refine t_ift (o_t rfl) hb27 ?_
                    refine t_seq ?_
                    refine t_reg ?_
                    refine st (l_ldm (i := 0) (o_t rfl) rfl (Fld.refl _) ty72 (lt rfl)) ?_
                    refine st (l_move (o_t rfl) (lt rfl)) ?_
                    refine st (l_conv Tryz.underlying3 int156 (o_t rfl) (lt rfl)) ?_
                    obtain ⟨t31, h32, hp_⟩ := bs hp_
                    refine st (l_call (ok114 p1 (IntKind.wrap .u64 p4) _ h32) (.cons (o_t rfl) (.cons (o_t rfl) (.nil))) (lt rfl)) ?_
                    refine r_stm (i := 0) (o_t rfl) (o_t rfl) rfl (Fld.refl _) sz72 ?_
                    refine r_nil (k_seq ?_)
                    refine t_seq ?_
                    refine t_reg ?_
                    refine st (l_move (o_t rfl) (lt rfl)) ?_
                    refine st (l_move (o_t rfl) (lt rfl)) ?_
                    refine st (l_bin (o_t rfl) (o_t rfl) .sub (lt rfl)) ?_
                    refine st (l_bin (o_t rfl) (o_i) .add (lt rfl)) ?_
                    refine st (l_fam (o_t rfl) fa72_1 (lt rfl)) ?_
                    refine st (l_ldm (i := 0) (o_t rfl) rfl fl_aBits_1 ty70 (lt rfl)) ?_
                    refine st (l_fam (o_t rfl) fa72_2 (lt rfl)) ?_
                    refine st (l_ldm (i := 0) (o_t rfl) rfl fl_aBits_2 ty70 (lt rfl)) ?_
                    obtain ⟨t33, h34, hp_⟩ := bs hp_
                    refine st (l_call (ok79 (IntKind.wrap .i64 ((IntKind.wrap .i64 (p3 - p4)) + (1 : Int))) t31.Hi t31.Lo _ h34) (.cons (o_t rfl) (.cons (o_t rfl) (.cons (o_t rfl) (.nil)))) (lt rfl)) ?_
                    refine r_stm (i := 1) (o_t rfl) (o_t rfl) rfl (Fld.refl _) sz72 ?_
                    refine st (l_assign (o_i) (lt rfl)) ?_
                    refine r_nil (k_seq ?_)
                    cases hp_
                    exact t_ret (k_frzb (s := 10) (i := 1) rfl rfl <| k_br <| k_tr <| k_drop <| k_rets2 () rfl rfl (.cell ty72 rfl (.cons rfl .nil)) rfl rfl rfl)
          · rw [if_pos hb14] at hp_
            refine t_ift (o_t rfl) hb14 ?_
            refine t_seq ?_
            refine t_reg ?_
            refine st (l_fam (o_t rfl) fa72_0 (lt rfl)) ?_
            refine st (l_ldm (i := 0) (o_t rfl) rfl fl_aBits_0 ty3 (lt rfl)) ?_
            refine st (l_fam (o_t rfl) fa72_1 (lt rfl)) ?_
            refine st (l_ldm (i := 0) (o_t rfl) rfl fl_aBits_1 ty70 (lt rfl)) ?_
            refine st (l_inv (o_t rfl) (lt rfl)) ?_
            refine st (l_fam (o_t rfl) fa72_2 (lt rfl)) ?_
            refine st (l_ldm (i := 0) (o_t rfl) rfl fl_aBits_2 ty70 (lt rfl)) ?_
            refine st (l_inv (o_t rfl) (lt rfl)) ?_
            obtain ⟨t35, h36, hp_⟩ := bs hp_
            refine st (l_call (ok79 p1.W (iinv .u64 p1.Hi) (iinv .u64 p1.Lo) _ h36) (.cons (o_t rfl) (.cons (o_t rfl) (.cons (o_t rfl) (.nil)))) (lt rfl)) ?_
            refine r_stm (i := 1) (o_t rfl) (o_t rfl) rfl (Fld.refl _) sz72 ?_
            refine st (l_assign (o_i) (lt rfl)) ?_
            refine r_nil (k_seq ?_)
            cases hp_
            exact t_ret (k_frzb (s := 10) (i := 1) rfl rfl <| k_br <| k_tr <| k_drop <| k_rets2 () rfl rfl (.cell ty72 rfl (.cons rfl .nil)) rfl rfl rfl)
        · rw [if_pos hb13] at hp_
          refine t_ift (o_t rfl) hb13 ?_
          refine t_seq ?_
          refine t_reg ?_
          refine st (l_build zr72 (.nil) rfl stb72 (lt rfl)) ?_
          refine r_stm (i := 1) (o_t rfl) (o_t rfl) rfl (Fld.refl _) sz72 ?_
          refine st (l_assign (o_i) (lt rfl)) ?_
          refine r_nil (k_seq ?_)
          cases hp_
          exact t_ret (k_frzb (s := 10) (i := 1) rfl rfl <| k_br <| k_tr <| k_drop <| k_rets2 () rfl rfl (.cell ty72 rfl (.cons rfl .nil)) rfl rfl rfl)
    · rw [if_pos hb10] at hp_
      refine g_t rfl rfl hb10 ?_
      refine st (l_ld (o_t rfl) ty72 (lt rfl)) ?_
      refine g_t rfl rfl hb10 ?_
      obtain ⟨t37, h38, hp_⟩ := bs hp_
      refine st (l_call (ok57 p2 _ h38) (.cons (o_t rfl) (.nil)) (lt rfl)) ?_
      refine g_t rfl rfl hb10 ?_
      refine st (l_not (o_t rfl) (lt rfl)) ?_
      refine st (l_pickt (o_t rfl) hb10 (o_t rfl) (lt rfl)) ?_
      refine st (l_assign (o_t rfl) (lt rfl)) ?_
      refine r_nil (k_seq ?_)
      obtain ⟨res2_, hl2_, hx2_⟩ := bs hp_
      clear hp_
      refine t_join (σ := Bool) (fun x_ => [⟨0, vInt .u8, p0⟩, ⟨3, vInt .i64, p3⟩, ⟨4, vInt .i64, p4⟩, ⟨6, vLoc, (b1, 0)⟩, ⟨7, vPtr k_aBits, p2⟩, ⟨10, vLoc, (b3, 0)⟩, ⟨12, vClo Tryz.prog (fun x : aBits × aBits => [⟨(k_aBits).v, x.1⟩, ⟨(k_aBits).v, x.2⟩]) ((k_aBits).v), ((mget (fun x y => x == y) p0 t5).getD (fun _ => none), (mget (fun x y => x == y) p0 t5).isSome, ()).1⟩, ⟨13, vBool, ((mget (fun x y => x == y) p0 t5).getD (fun _ => none), (mget (fun x y => x == y) p0 t5).isSome, ()).2.1⟩, ⟨14, vClo Tryz.prog (fun x : aBits × aBits => [⟨(k_aBits).v, x.1⟩, ⟨(k_aBits).v, x.2⟩]) ((k_aBits).v), ((mget (fun x y => x == y) p0 t7).getD (fun _ => none), (mget (fun x y => x == y) p0 t7).isSome, ()).1⟩, ⟨15, vBool, ((mget (fun x y => x == y) p0 t7).getD (fun _ => none), (mget (fun x y => x == y) p0 t7).isSome, ()).2.1⟩, ⟨29, vBool, x_⟩]) (fun x_ => [rBox b1 72 k_aBits p1, rBox b3 72 k_aBits (aBits.mk 0 0 0)]) (fun x_ => res2_ = x_) ?_ ?_
      · skip
        rcases bt (!t37) with hb39 | hb39
        · rw [if_neg (nt hb39)] at hl2_
          refine t_iff (o_t rfl) hb39 ?_
          refine t_reg ?_
          refine st (l_ldm (i := 0) (o_t rfl) rfl (Fld.refl _) ty72 (lt rfl)) ?_
          obtain ⟨t40, h41, hl2_⟩ := bs hl2_
          refine st (l_call (ok57 p1 _ h41) (.cons (o_t rfl) (.nil)) (lt rfl)) ?_
          refine st (l_not (o_t rfl) (lt rfl)) ?_
          refine st (l_assign (o_t rfl) (lt rfl)) ?_
          exact r_nil (k_brk (!t40) (Option.some.inj hl2_).symm (Sub.cons rfl (Sub.cons rfl (Sub.cons rfl (Sub.cons rfl (Sub.cons rfl (Sub.cons rfl (Sub.cons rfl (Sub.cons rfl (Sub.cons rfl (Sub.cons rfl (Sub.cons rfl (Sub.nil _)))))))))))) rfl)
        · rw [if_pos hb39] at hl2_
          refine t_ift (o_t rfl) hb39 ?_
          exact t_skip (k_brk (!t37) (Option.some.inj hl2_).symm (Sub.cons rfl (Sub.cons rfl (Sub.cons rfl (Sub.cons rfl (Sub.cons rfl (Sub.cons rfl (Sub.cons rfl (Sub.cons rfl (Sub.cons rfl (Sub.cons rfl (Sub.cons rfl (Sub.nil _)))))))))))) rfl)
      · intro s2_ hs2_
        replace hs2_ : s2_ = res2_ := Eq.symm hs2_
        subst hs2_
        have hp_ := hx2_
        clear hx2_
        show Kx _ [⟨0, vInt .u8, p0⟩, ⟨3, vInt .i64, p3⟩, ⟨4, vInt .i64, p4⟩, ⟨6, vLoc, (b1, 0)⟩, ⟨7, vPtr k_aBits, p2⟩, ⟨10, vLoc, (b3, 0)⟩, ⟨12, vClo Tryz.prog (fun x : aBits × aBits => [⟨(k_aBits).v, x.1⟩, ⟨(k_aBits).v, x.2⟩]) ((k_aBits).v), ((mget (fun x y => x == y) p0 t5).getD (fun _ => none), (mget (fun x y => x == y) p0 t5).isSome, ()).1⟩, ⟨13, vBool, ((mget (fun x y => x == y) p0 t5).getD (fun _ => none), (mget (fun x y => x == y) p0 t5).isSome, ()).2.1⟩, ⟨14, vClo Tryz.prog (fun x : aBits × aBits => [⟨(k_aBits).v, x.1⟩, ⟨(k_aBits).v, x.2⟩]) ((k_aBits).v), ((mget (fun x y => x == y) p0 t7).getD (fun _ => none), (mget (fun x y => x == y) p0 t7).isSome, ()).1⟩, ⟨15, vBool, ((mget (fun x y => x == y) p0 t7).getD (fun _ => none), (mget (fun x y => x == y) p0 t7).isSome, ()).2.1⟩, ⟨29, vBool, s2_⟩] [rBox b1 72 k_aBits p1, rBox b3 72 k_aBits (aBits.mk 0 0 0)] _ _
        refine k_seq ?_
        rcases bt (s2_) with hb42 | hb42
        · rw [if_neg (nt hb42)] at hp_
          refine t_iff (o_t rfl) hb42 ?_
          refine t_seq ?_
          refine t_reg ?_
          refine st (l_move (o_t rfl) (lt rfl)) ?_
          refine st (l_assign (o_t rfl) (lt rfl)) ?_
          refine r_nil (k_seq ?_)
          refine t_iff (o_t rfl) hb9 ?_
          refine t_seq ?_
          refine t_reg ?_
          refine st (l_move (o_t rfl) (lt rfl)) ?_
          refine st (l_assign (o_t rfl) (lt rfl)) ?_
          refine r_nil (k_seq ?_)
          refine t_ift (o_t rfl) hb10 ?_
          refine t_seq ?_
          refine t_reg ?_
          refine st (l_move (o_t rfl) (lt rfl)) ?_
          refine st (l_ldm (i := 0) (o_t rfl) rfl (Fld.refl _) ty72 (lt rfl)) ?_
          refine st (l_ld (o_t rfl) ty72 (lt rfl)) ?_
          obtain ⟨t43, h44, hp_⟩ := bs hp_
          refine st (l_callc (o_t rfl) (x := (p1, p2)) (.cons (o_t rfl) (.cons (o_t rfl) (.nil))) h44 (lt rfl)) ?_
          refine r_als zr72 (o_t rfl) rfl sz72 (lt rfl) ?_
          refine r_nil (k_seq ?_)
          refine t_seq ?_
          refine t_seq ?_
          refine t_reg ?_
          refine st (l_fa (o_t rfl) fl_aBits_0 fa72_0 (lt rfl)) ?_
          refine st (l_ld (o_t rfl) ty3 (lt rfl)) ?_
          refine st (l_cmp (o_t rfl) (o_i) .eql (lt rfl)) ?_
          refine r_nil (k_seq ?_)
          rcases bt (t43.W == (0 : Int)) with hb45 | hb45
          · rw [if_neg (nt hb45)] at hp_
            refine t_iff (o_t rfl) hb45 ?_
            refine t_skip (k_seq ?_)
            refine t_seq ?_
            refine t_reg ?_
            refine st (l_ld (o_t rfl) ty72 (lt rfl)) ?_
            refine r_stm (i := 1) (o_t rfl) (o_t rfl) rfl (Fld.refl _) sz72 ?_
            refine st (l_assign (o_i) (lt rfl)) ?_
            refine r_nil (k_seq ?_)
            cases hp_
            exact t_ret (k_frzb (s := 10) (i := 1) rfl rfl <| k_br <| k_tr <| k_drop <| k_rets2 () rfl rfl (.cell ty72 rfl (.cons rfl .nil)) rfl rfl rfl)
          · rw [if_pos hb45] at hp_
            refine t_ift (o_t rfl) hb45 ?_
            refine t_seq ?_
            refine t_reg ?_
            refine st (l_ld (o_t rfl) ty72 (lt rfl)) ?_
            refine r_stm (i := 1) (o_t rfl) (o_t rfl) rfl (Fld.refl _) sz72 ?_
            refine st (l_assign (o_i) (lt rfl)) ?_
            refine r_nil (k_seq ?_)
            cases hp_
            exact t_ret (k_frzb (s := 10) (i := 1) rfl rfl <| k_tr <| k_br <| k_tr <| k_drop <| k_rets2 () rfl rfl (.cell ty72 rfl (.cons rfl .nil)) rfl rfl rfl)
        · rw [if_pos hb42] at hp_
          refine t_ift (o_t rfl) hb42 ?_
          refine t_seq ?_
          refine t_reg ?_
          refine st (l_build zr72 (.nil) rfl stb72 (lt rfl)) ?_
          refine r_stm (i := 1) (o_t rfl) (o_t rfl) rfl (Fld.refl _) sz72 ?_
          refine st (l_assign (o_i) (lt rfl)) ?_
          refine r_nil (k_seq ?_)
          cases hp_
          exact t_ret (k_frzb (s := 10) (i := 1) rfl rfl <| k_br <| k_tr <| k_drop <| k_rets2 () rfl rfl (.cell ty72 rfl (.cons rfl .nil)) rfl rfl rfl)
  · rw [if_pos hb9] at hp_
    refine g_n ⟨31, vBool, ((mget (fun x y => x == y) p0 t5).getD (fun _ => none), (mget (fun x y => x == y) p0 t5).isSome, ()).2.1⟩ rfl rfl (noy_b (b := false) hb9) (lt rfl) ?_
    refine st (l_pickt (o_t rfl) hb9 (o_b) (lt rfl)) ?_
    refine st (l_move (o_t rfl) (lt rfl)) ?_
    refine g_t rfl rfl rfl ?_
    refine st (l_ld (o_t rfl) ty72 (lt rfl)) ?_
    refine g_t rfl rfl rfl ?_
    obtain ⟨t46, h47, hp_⟩ := bs hp_
    refine st (l_call (ok57 p2 _ h47) (.cons (o_t rfl) (.nil)) (lt rfl)) ?_
    refine g_t rfl rfl rfl ?_
    refine st (l_not (o_t rfl) (lt rfl)) ?_
    refine st (l_pickt (o_t rfl) rfl (o_t rfl) (lt rfl)) ?_
    refine st (l_assign (o_t rfl) (lt rfl)) ?_
    refine r_nil (k_seq ?_)
    obtain ⟨res3_, hl3_, hx3_⟩ := bs hp_
    clear hp_
    refine t_join (σ := Bool) (fun x_ => [⟨0, vInt .u8, p0⟩, ⟨3, vInt .i64, p3⟩, ⟨4, vInt .i64, p4⟩, ⟨6, vLoc, (b1, 0)⟩, ⟨7, vPtr k_aBits, p2⟩, ⟨10, vLoc, (b3, 0)⟩, ⟨12, vClo Tryz.prog (fun x : aBits × aBits => [⟨(k_aBits).v, x.1⟩, ⟨(k_aBits).v, x.2⟩]) ((k_aBits).v), ((mget (fun x y => x == y) p0 t5).getD (fun _ => none), (mget (fun x y => x == y) p0 t5).isSome, ()).1⟩, ⟨13, vBool, ((mget (fun x y => x == y) p0 t5).getD (fun _ => none), (mget (fun x y => x == y) p0 t5).isSome, ()).2.1⟩, ⟨14, vClo Tryz.prog (fun x : aBits × aBits => [⟨(k_aBits).v, x.1⟩, ⟨(k_aBits).v, x.2⟩]) ((k_aBits).v), ((mget (fun x y => x == y) p0 t7).getD (fun _ => none), (mget (fun x y => x == y) p0 t7).isSome, ()).1⟩, ⟨15, vBool, ((mget (fun x y => x == y) p0 t7).getD (fun _ => none), (mget (fun x y => x == y) p0 t7).isSome, ()).2.1⟩, ⟨29, vBool, x_⟩]) (fun x_ => [rBox b1 72 k_aBits p1, rBox b3 72 k_aBits (aBits.mk 0 0 0)]) (fun x_ => res3_ = x_) ?_ ?_
    · skip
      rcases bt (!t46) with hb48 | hb48
      · rw [if_neg (nt hb48)] at hl3_
        refine t_iff (o_t rfl) hb48 ?_
        refine t_reg ?_
        refine st (l_ldm (i := 0) (o_t rfl) rfl (Fld.refl _) ty72 (lt rfl)) ?_
        obtain ⟨t49, h50, hl3_⟩ := bs hl3_
        refine st (l_call (ok57 p1 _ h50) (.cons (o_t rfl) (.nil)) (lt rfl)) ?_
        refine st (l_not (o_t rfl) (lt rfl)) ?_
        refine st (l_assign (o_t rfl) (lt rfl)) ?_
        exact r_nil (k_brk (!t49) (Option.some.inj hl3_).symm (Sub.cons rfl (Sub.cons rfl (Sub.cons rfl (Sub.cons rfl (Sub.cons rfl (Sub.cons rfl (Sub.cons rfl (Sub.cons rfl (Sub.cons rfl (Sub.cons rfl (Sub.cons rfl (Sub.nil _)))))))))))) rfl)
      · rw [if_pos hb48] at hl3_
        refine t_ift (o_t rfl) hb48 ?_
        exact t_skip (k_brk (!t46) (Option.some.inj hl3_).symm (Sub.cons rfl (Sub.cons rfl (Sub.cons rfl (Sub.cons rfl (Sub.cons rfl (Sub.cons rfl (Sub.cons rfl (Sub.cons rfl (Sub.cons rfl (Sub.cons rfl (Sub.cons rfl (Sub.nil _)))))))))))) rfl)
    · intro s3_ hs3_
      replace hs3_ : s3_ = res3_ := Eq.symm hs3_
      subst hs3_
      have hp_ := hx3_
      clear hx3_
      show Kx _ [⟨0, vInt .u8, p0⟩, ⟨3, vInt .i64, p3⟩, ⟨4, vInt .i64, p4⟩, ⟨6, vLoc, (b1, 0)⟩, ⟨7, vPtr k_aBits, p2⟩, ⟨10, vLoc, (b3, 0)⟩, ⟨12, vClo Tryz.prog (fun x : aBits × aBits => [⟨(k_aBits).v, x.1⟩, ⟨(k_aBits).v, x.2⟩]) ((k_aBits).v), ((mget (fun x y => x == y) p0 t5).getD (fun _ => none), (mget (fun x y => x == y) p0 t5).isSome, ()).1⟩, ⟨13, vBool, ((mget (fun x y => x == y) p0 t5).getD (fun _ => none), (mget (fun x y => x == y) p0 t5).isSome, ()).2.1⟩, ⟨14, vClo Tryz.prog (fun x : aBits × aBits => [⟨(k_aBits).v, x.1⟩, ⟨(k_aBits).v, x.2⟩]) ((k_aBits).v), ((mget (fun x y => x == y) p0 t7).getD (fun _ => none), (mget (fun x y => x == y) p0 t7).isSome, ()).1⟩, ⟨15, vBool, ((mget (fun x y => x == y) p0 t7).getD (fun _ => none), (mget (fun x y => x == y) p0 t7).isSome, ()).2.1⟩, ⟨29, vBool, s3_⟩] [rBox b1 72 k_aBits p1, rBox b3 72 k_aBits (aBits.mk 0 0 0)] _ _
      refine k_seq ?_
      rcases bt (s3_) with hb51 | hb51
      · rw [if_neg (nt hb51)] at hp_
        refine t_iff (o_t rfl) hb51 ?_
        refine t_seq ?_
        refine t_reg ?_
        refine st (l_move (o_t rfl) (lt rfl)) ?_
        refine st (l_assign (o_t rfl) (lt rfl)) ?_
        refine r_nil (k_seq ?_)
        refine t_ift (o_t rfl) hb9 ?_
        refine t_seq ?_
        refine t_seq ?_
        refine t_reg ?_
        refine st (l_fam (o_t rfl) fa72_0 (lt rfl)) ?_
        refine st (l_ldm (i := 0) (o_t rfl) rfl fl_aBits_0 ty3 (lt rfl)) ?_
        refine st (l_fa (o_t rfl) fl_aBits_0 fa72_0 (lt rfl)) ?_
        refine st (l_ld (o_t rfl) ty3 (lt rfl)) ?_
        refine st (l_cmp (o_t rfl) (o_t rfl) .neq (lt rfl)) ?_
        refine r_nil (k_seq ?_)
        rcases bt (p1.W != p2.W) with hb52 | hb52
        · rw [if_neg (nt hb52)] at hp_
          refine t_iff (o_t rfl) hb52 ?_
          refine t_skip (k_seq ?_)
          refine t_seq ?_
          refine t_reg ?_
          refine st (l_move (o_t rfl) (lt rfl)) ?_
          refine st (l_ldm (i := 0) (o_t rfl) rfl (Fld.refl _) ty72 (lt rfl)) ?_
          refine st (l_ld (o_t rfl) ty72 (lt rfl)) ?_
          obtain ⟨t53, h54, hp_⟩ := bs hp_
          refine st (l_callc (o_t rfl) (x := (p1, p2)) (.cons (o_t rfl) (.cons (o_t rfl) (.nil))) h54 (lt rfl)) ?_
          refine r_stm (i := 1) (o_t rfl) (o_t rfl) rfl (Fld.refl _) sz72 ?_
          refine st (l_assign (o_i) (lt rfl)) ?_
          refine r_nil (k_seq ?_)
          cases hp_
          exact t_ret (k_frzb (s := 10) (i := 1) rfl rfl <| k_br <| k_tr <| k_drop <| k_rets2 () rfl rfl (.cell ty72 rfl (.cons rfl .nil)) rfl rfl rfl)
        · rw [if_pos hb52] at hp_
          refine t_ift (o_t rfl) hb52 ?_
          refine t_seq ?_
          refine t_reg ?_
          refine st (l_build zr72 (.nil) rfl stb72 (lt rfl)) ?_
          refine r_stm (i := 1) (o_t rfl) (o_t rfl) rfl (Fld.refl _) sz72 ?_
          refine st (l_assign (o_i) (lt rfl)) ?_
          refine r_nil (k_seq ?_)
          cases hp_
          exact t_ret (k_frzb (s := 10) (i := 1) rfl rfl <| k_tr <| k_br <| k_tr <| k_drop <| k_rets2 () rfl rfl (.cell ty72 rfl (.cons rfl .nil)) rfl rfl rfl)
      · rw [if_pos hb51] at hp_
        refine t_ift (o_t rfl) hb51 ?_
        refine t_seq ?_
        refine t_reg ?_
        refine st (l_build zr72 (.nil) rfl stb72 (lt rfl)) ?_
        refine r_stm (i := 1) (o_t rfl) (o_t rfl) rfl (Fld.refl _) sz72 ?_
        refine st (l_assign (o_i) (lt rfl)) ?_
        refine r_nil (k_seq ?_)
        cases hp_
        exact t_ret (k_frzb (s := 10) (i := 1) rfl rfl <| k_br <| k_tr <| k_drop <| k_rets2 () rfl rfl (.cell ty72 rfl (.cons rfl .nil)) rfl rfl rfl)
-- (pointsman/code.look).op
theorem ok83 (p0 : code_look) (p1 : aIns) (p2 : code_place) (y_ : Bool) (hp_ : code_look_op p0 p1 p2 = some y_) : FP Tryz.prog 83 [⟨(k_code_look).v, p0⟩, ⟨(k_aIns).v, p1⟩, ⟨(k_code_place).v, p2⟩] vBool y_ := by
  unfold code_look_op at hp_
  refine fc_of 107 Tryz.func83 rfl fn83 rfl (Nat.le_of_ble_eq_true rfl) fun I_ w_ F_ => ?_
  refine t_seq ?_
  refine t_reg ?_
  refine st (l_box (o_t rfl) (lt rfl)) ?_
  refine st (l_box (o_t rfl) (lt rfl)) ?_
  refine st (l_box (o_t rfl) (lt rfl)) ?_
  refine st (l_assign (o_b) (lt rfl)) ?_
  refine r_nil (k_seq ?_)
  refine t_seq ?_
  refine t_seq ?_
  refine t_reg ?_
  refine st (l_ld (o_t rfl) ty51 (lt rfl)) ?_
  refine st (l_fa (o_t rfl) fl_aIns_2 fa75_2 (lt rfl)) ?_
  refine st (l_ld (o_t rfl) ty3 (lt rfl)) ?_
  obtain ⟨t1, h2, hp_⟩ := bs hp_
  refine st (l_call (ok54 p0 p1.A _ h2) (.cons (o_t rfl) (.cons (o_t rfl) (.nil))) (lt rfl)) ?_
  refine st (l_not (o_t rfl) (lt rfl)) ?_
  refine st (l_move (o_t rfl) (lt rfl)) ?_
  rcases bt (!t1) with hb3 | hb3
  · rw [if_neg (nt hb3)] at hp_
    refine g_t rfl rfl hb3 ?_
    refine st (l_ld (o_t rfl) ty51 (lt rfl)) ?_
    refine g_t rfl rfl hb3 ?_
    refine st (l_fa (o_t rfl) fl_aIns_1 fa75_1 (lt rfl)) ?_
    refine g_t rfl rfl hb3 ?_
    refine st (l_ld (o_t rfl) ty3 (lt rfl)) ?_
    refine g_t rfl rfl hb3 ?_
    obtain ⟨t4, h5, hp_⟩ := bs hp_
    refine st (l_call (ok54 p0 p1.To _ h5) (.cons (o_t rfl) (.cons (o_t rfl) (.nil))) (lt rfl)) ?_
    refine g_t rfl rfl hb3 ?_
    refine st (l_not (o_t rfl) (lt rfl)) ?_
    refine st (l_pickf (o_t rfl) hb3 (o_t rfl) (lt rfl)) ?_
    refine st (l_move (o_t rfl) (lt rfl)) ?_
    rcases bt (!t4) with hb6 | hb6
    · rw [if_neg (nt hb6)] at hp_
      refine g_t rfl rfl hb6 ?_
      refine st (l_fa (o_t rfl) fl_aIns_8 fa75_8 (lt rfl)) ?_
      refine g_t rfl rfl hb6 ?_
      refine st (l_ld (o_t rfl) ty73 (lt rfl)) ?_
      refine g_t rfl rfl hb6 ?_
      refine st (l_cmp (o_t rfl) (o_i) .lss (lt rfl)) ?_
      refine st (l_pickf (o_t rfl) hb6 (o_t rfl) (lt rfl)) ?_
      refine st (l_move (o_t rfl) (lt rfl)) ?_
      rcases bt (decide (p1.By < (5 : Int))) with hb7 | hb7
      · rw [if_neg (nt hb7)] at hp_
        refine g_t rfl rfl hb7 ?_
        refine st (l_fa (o_t rfl) fl_aIns_8 fa75_8 (lt rfl)) ?_
        refine g_t rfl rfl hb7 ?_
        refine st (l_ld (o_t rfl) ty73 (lt rfl)) ?_
        refine g_t rfl rfl hb7 ?_
        refine st (l_cmp (o_t rfl) (o_i) .gtr (lt rfl)) ?_
        refine st (l_pickf (o_t rfl) hb7 (o_t rfl) (lt rfl)) ?_
        refine r_nil (k_seq ?_)
        rcases bt (decide (p1.By > (22 : Int))) with hb8 | hb8
        · rw [if_neg (nt hb8)] at hp_
          refine t_iff (o_t rfl) hb8 ?_
          refine t_skip (k_seq ?_)
          refine t_seq ?_
          refine t_reg ?_
          refine st (l_build zr72 (.nil) rfl stb72 (lt rfl)) ?_
          refine r_alloc zr72 (lt rfl) (fun b9 => ?_)
          refine r_stm (i := 0) (o_t rfl) (o_t rfl) rfl (Fld.refl _) sz72 ?_
          refine r_nil (k_seq ?_)
          refine t_seq ?_
          refine t_seq ?_
          refine t_reg ?_
          refine st (l_fa (o_t rfl) fl_aIns_8 fa75_8 (lt rfl)) ?_
          refine st (l_ld (o_t rfl) ty73 (lt rfl)) ?_
          refine r_nil (k_seq ?_)
          obtain ⟨res1_, hl1_, hx1_⟩ := bs hp_
          clear hp_
          refine t_join (σ := aBits) (fun x_ => [⟨3, vPtr k_code_look, p0⟩, ⟨4, vPtr k_aIns, p1⟩, ⟨7, vLoc, (b9, 0)⟩]) (fun x_ => [rBox b9 72 k_aBits x_]) (fun x_ => res1_ = .go x_) ?_ ?_
          · skip
            refine t_blk ?_
            refine t_seq ?_
            refine t_seq ?_
            refine t_reg ?_
            refine st (l_cmp (o_t rfl) (o_i) .eql (lt rfl)) ?_
            refine st (l_assign (o_t rfl) (lt rfl)) ?_
            refine r_nil (k_seq ?_)
            obtain ⟨res2_, hl2_, hx2_⟩ := bs hl1_
            clear hl1_
            refine t_join (σ := Bool) (fun x_ => [⟨3, vPtr k_code_look, p0⟩, ⟨4, vPtr k_aIns, p1⟩, ⟨7, vLoc, (b9, 0)⟩, ⟨48, vBool, x_⟩]) (fun x_ => [rBox b9 72 k_aBits (aBits.mk 0 0 0)]) (fun x_ => res2_ = x_) ?_ ?_
            · skip
              rcases bt (p1.By == (11 : Int)) with hb11 | hb11
              · rw [if_neg (nt hb11)] at hl2_
                refine t_iff (o_t rfl) hb11 ?_
                refine t_seq ?_
                refine t_reg ?_
                refine st (l_cmp (o_t rfl) (o_i) .eql (lt rfl)) ?_
                refine st (l_assign (o_t rfl) (lt rfl)) ?_
                refine r_nil (k_seq ?_)
                rcases bt (p1.By == (15 : Int)) with hb12 | hb12
                · rw [if_neg (nt hb12)] at hl2_
                  refine t_iff (o_t rfl) hb12 ?_
                  refine t_reg ?_
                  refine st (l_cmp (o_t rfl) (o_i) .eql (lt rfl)) ?_
                  refine st (l_assign (o_t rfl) (lt rfl)) ?_
                  exact r_nil (k_brk (p1.By == (16 : Int)) (Option.some.inj hl2_).symm (Sub.cons rfl (Sub.cons rfl (Sub.cons rfl (Sub.cons rfl (Sub.nil _))))) rfl)
                · rw [if_pos hb12] at hl2_
                  refine t_ift (o_t rfl) hb12 ?_
                  exact t_skip (k_brk (p1.By == (15 : Int)) (Option.some.inj hl2_).symm (Sub.cons rfl (Sub.cons rfl (Sub.cons rfl (Sub.cons rfl (Sub.nil _))))) rfl)
              · rw [if_pos hb11] at hl2_
                refine t_ift (o_t rfl) hb11 ?_
                exact t_skip (k_brk (p1.By == (11 : Int)) (Option.some.inj hl2_).symm (Sub.cons rfl (Sub.cons rfl (Sub.cons rfl (Sub.cons rfl (Sub.nil _))))) rfl)
            · intro s2_ hs2_
              replace hs2_ : s2_ = res2_ := Eq.symm hs2_
              subst hs2_
              have hl1_ := hx2_
              clear hx2_
              show Kx _ [⟨3, vPtr k_code_look, p0⟩, ⟨4, vPtr k_aIns, p1⟩, ⟨7, vLoc, (b9, 0)⟩, ⟨48, vBool, s2_⟩] [rBox b9 72 k_aBits (aBits.mk 0 0 0)] _ _
              refine k_seq ?_
              rcases bt (s2_) with hb13 | hb13
              · rw [if_neg (nt hb13)] at hl1_
                refine t_iff (o_t rfl) hb13 ?_
                refine t_seq ?_
                refine t_seq ?_
                refine t_reg ?_
                refine st (l_ld (o_t rfl) ty51 (lt rfl)) ?_
                refine st (l_fa (o_t rfl) fl_aIns_3 fa75_3 (lt rfl)) ?_
                refine st (l_ld (o_t rfl) ty3 (lt rfl)) ?_
                obtain ⟨t14, h15, hl1_⟩ := bs hl1_
                refine st (l_call (ok54 p0 p1.B _ h15) (.cons (o_t rfl) (.cons (o_t rfl) (.nil))) (lt rfl)) ?_
                refine st (l_not (o_t rfl) (lt rfl)) ?_
                refine r_nil (k_seq ?_)
                rcases bt (!t14) with hb16 | hb16
                · rw [if_neg (nt hb16)] at hl1_
                  refine t_iff (o_t rfl) hb16 ?_
                  refine t_skip (k_seq ?_)
                  refine t_reg ?_
                  refine st (l_fa (o_t rfl) fl_code_look_0 fa51_0 (lt rfl)) ?_
                  refine st (l_fa (o_t rfl) fl_aCode_0 fa30_0 (lt rfl)) ?_
                  refine st (l_ld (o_t rfl) ty22 (lt rfl)) ?_
                  refine st (l_fa (o_t rfl) fl_aIns_3 fa75_3 (lt rfl)) ?_
                  refine st (l_ld (o_t rfl) ty3 (lt rfl)) ?_
                  obtain ⟨t17, h18, hl1_⟩ := bs hl1_
                  refine st (l_ia (o_t rfl) (o_t rfl) h18 sl22 sz3 (lt rfl)) ?_
                  refine st (l_ld (o_t rfl) ty3 (lt rfl)) ?_
                  refine st (l_fam (o_t rfl) fa72_0 (lt rfl)) ?_
                  refine r_stm (i := 0) (o_t rfl) (o_t rfl) rfl fl_aBits_0 sz3 ?_
                  exact r_nil (k_bn <| k_brk (aBits.mk t17 0 0) (Option.some.inj hl1_).symm (Sub.cons rfl (Sub.cons rfl (Sub.cons rfl (Sub.nil _)))) rfl)
                · rw [if_pos hb16] at hl1_
                  refine t_ift (o_t rfl) hb16 ?_
                  refine t_seq ?_
                  refine t_reg ?_
                  refine st (l_assign (o_b) (lt rfl)) ?_
                  refine r_nil (k_seq ?_)
                  cases hl1_
                  dsimp only [Ex.elim] at hx1_
                  cases hx1_
                  exact t_ret (k_tr <| k_br <| k_brk_r <| k_tr <| k_drop <| k_ret () rfl rfl rfl rfl rfl)
              · rw [if_pos hb13] at hl1_
                refine t_ift (o_t rfl) hb13 ?_
                refine t_seq ?_
                refine t_reg ?_
                refine st (l_fa (o_t rfl) fl_aIns_3 fa75_3 (lt rfl)) ?_
                refine st (l_ld (o_t rfl) ty3 (lt rfl)) ?_
                refine st (l_cmp (o_t rfl) (o_i) .neq (lt rfl)) ?_
                refine r_nil (k_seq ?_)
                rcases bt (p1.B != (0 : Int)) with hb19 | hb19
                · rw [if_neg (nt hb19)] at hl1_
                  refine t_iff (o_t rfl) hb19 ?_
                  exact t_skip (k_bn <| k_brk (aBits.mk 0 0 0) (Option.some.inj hl1_).symm (Sub.cons rfl (Sub.cons rfl (Sub.cons rfl (Sub.nil _)))) rfl)
                · rw [if_pos hb19] at hl1_
                  refine t_ift (o_t rfl) hb19 ?_
                  refine t_seq ?_
                  refine t_reg ?_
                  refine st (l_assign (o_b) (lt rfl)) ?_
                  refine r_nil (k_seq ?_)
                  cases hl1_
                  dsimp only [Ex.elim] at hx1_
                  cases hx1_
                  exact t_ret (k_br <| k_brk_r <| k_tr <| k_drop <| k_ret () rfl rfl rfl rfl rfl)
          · intro s1_ hs1_
            replace hs1_ : res1_ = .go s1_ := hs1_
            subst hs1_
            dsimp only [Ex.elim] at hx1_
            have hp_ := hx1_
            clear hx1_
            show Kx _ [⟨3, vPtr k_code_look, p0⟩, ⟨4, vPtr k_aIns, p1⟩, ⟨7, vLoc, (b9, 0)⟩] [rBox b9 72 k_aBits s1_] _ _
            refine k_seq ?_
            refine t_seq ?_
            refine t_seq ?_
            refine t_reg ?_
            refine st (l_fa (o_t rfl) fl_aIns_5 fa75_5 (lt rfl)) ?_
            refine st (l_ld (o_t rfl) ty3 (lt rfl)) ?_
            refine st (l_cmp (o_t rfl) (o_i) .neq (lt rfl)) ?_
            refine st (l_move (o_t rfl) (lt rfl)) ?_
            rcases bt (p1.M != (0 : Int)) with hb20 | hb20
            · rw [if_neg (nt hb20)] at hp_
              refine g_n ⟨58, vBool, p1.M != (0 : Int)⟩ rfl rfl (noy_b (b := true) hb20) (lt rfl) ?_
              refine g_n ⟨58, vBool, p1.M != (0 : Int)⟩ rfl rfl (noy_b (b := true) hb20) (lt rfl) ?_
              refine g_n ⟨58, vBool, p1.M != (0 : Int)⟩ rfl rfl (noy_b (b := true) hb20) (lt rfl) ?_
              refine st (l_pickf (o_t rfl) hb20 (o_b) (lt rfl)) ?_
              refine st (l_move (o_t rfl) (lt rfl)) ?_
              refine g_t rfl rfl rfl ?_
              refine st (l_fa (o_t rfl) fl_aIns_4 fa75_4 (lt rfl)) ?_
              refine g_t rfl rfl rfl ?_
              refine st (l_ld (o_t rfl) ty3 (lt rfl)) ?_
              refine g_t rfl rfl rfl ?_
              refine st (l_cmp (o_t rfl) (o_i) .neq (lt rfl)) ?_
              refine g_t rfl rfl rfl ?_
              refine st (l_move (o_t rfl) (lt rfl)) ?_
              rcases bt (p1.N != (0 : Int)) with hb21 | hb21
              · rw [if_neg (nt hb21)] at hp_
                refine g_n ⟨67, vBool, p1.N != (0 : Int)⟩ rfl rfl (noy_b (b := true) hb21) (lt rfl) ?_
                refine g_n ⟨67, vBool, p1.N != (0 : Int)⟩ rfl rfl (noy_b (b := true) hb21) (lt rfl) ?_
                refine g_n ⟨67, vBool, p1.N != (0 : Int)⟩ rfl rfl (noy_b (b := true) hb21) (lt rfl) ?_
                refine g_t rfl rfl rfl ?_
                refine st (l_pickf (o_t rfl) hb21 (o_b) (lt rfl)) ?_
                refine g_t rfl rfl rfl ?_
                refine st (l_move (o_t rfl) (lt rfl)) ?_
                refine g_n ⟨72, vBool, false⟩ rfl rfl (noy_b (b := true) rfl) (lt rfl) ?_
                refine g_n ⟨72, vBool, false⟩ rfl rfl (noy_b (b := true) rfl) (lt rfl) ?_
                refine g_n ⟨72, vBool, false⟩ rfl rfl (noy_b (b := true) rfl) (lt rfl) ?_
                refine g_t rfl rfl rfl ?_
                refine st (l_pickf (o_t rfl) rfl (o_b) (lt rfl)) ?_
                refine st (l_pickf (o_t rfl) rfl (o_t rfl) (lt rfl)) ?_
                refine r_nil (k_seq ?_)
                refine t_iff (o_t rfl) rfl ?_
                refine t_skip (k_seq ?_)
                refine t_seq ?_
                obtain ⟨t22, h23, hp_⟩ := bs hp_
                obtain ⟨t24, h25, hp_⟩ := bs hp_
                refine t_draw [(0, fun gs_ => some ⟨79, vPtr (kInt .u8), p1.By⟩), (0, fun gs_ => some ⟨80, vInt .u8, p1.By⟩), (0, fun gs_ => some ⟨81, vPtr k_aCode, p0.c⟩), (0, fun gs_ => some ⟨82, vPtr (kSlice (kInt .i64)), p0.c.Slots⟩), (0, fun gs_ => some ⟨83, vSlice (kInt .i64), p0.c.Slots⟩), (0, fun gs_ => some ⟨84, vPtr (kInt .i64), p1.A⟩), (0, fun gs_ => some ⟨85, vInt .i64, p1.A⟩), (0, fun gs_ => some ⟨86, vPtr (kInt .i64), t22⟩), (0, fun gs_ => some ⟨87, vInt .i64, t22⟩), (0, fun gs_ => some ⟨88, (k_aBits).v, (aBits.mk t22 0 0)⟩), (0, fun gs_ => some ⟨89, (k_aBits).v, s1_⟩), (0, fun gs_ => some ⟨90, vPtr (kInt .i64), p1.N⟩), (0, fun gs_ => some ⟨91, vInt .i64, p1.N⟩), (0, fun gs_ => some ⟨92, vPtr (kInt .i64), p1.M⟩), (0, fun gs_ => some ⟨93, vInt .i64, p1.M⟩), (0, fun gs_ => some ⟨94, vTup (vlCons ((k_aBits).v) (vlCons (vInt .i64) vlNil)), t24⟩), (0, fun gs_ => some ⟨78, vTup (vlCons ((k_aBits).v) (vlCons (vInt .i64) vlNil)), t24⟩), (0, fun gs_ => some ⟨95, (k_aBits).v, t24.1⟩), (0, fun gs_ => some ⟨96, vInt .i64, t24.2.1⟩), (1, fun gs_ => some ⟨8, vLoc, ((blk (gg gs_ 0)), 0)⟩), (2, fun gs_ => none), (2, fun gs_ => some ⟨9, vInt .i64, t24.2.1⟩)] mixed rfl rfl (fun gs_ => [rBox b9 72 k_aBits s1_] ++ ph gs_ [fun gs_ => [], fun gs_ => [rBox (blk (gg gs_ 0)) 72 k_aBits (aBits.mk 0 0 0)], fun gs_ => [rBox (blk (gg gs_ 0)) 72 k_aBits t24.1]]) [19, 20] rfl (.x (f := fun gs_ => ⟨79, vPtr (kInt .u8), p1.By⟩) 0 (fun gs_ => [⟨4, vPtr k_aIns, p1⟩]) rfl (fun gs_ => l_fa (o_t rfl) fl_aIns_8 fa75_8 (lt rfl)) (fun gs_ => .b rfl rfl (.nil)) .n (fun _ => rfl) rfl (fun _ _ _ => rfl) (.x (f := fun gs_ => ⟨80, vInt .u8, p1.By⟩) 0 (fun gs_ => [⟨79, vPtr (kInt .u8), p1.By⟩]) rfl (fun gs_ => l_ld (o_t rfl) ty73 (lt rfl)) (fun gs_ => .d 0 rfl rfl (.nil)) .n (fun _ => rfl) rfl (fun _ _ _ => rfl) (.x (f := fun gs_ => ⟨81, vPtr k_aCode, p0.c⟩) 0 (fun gs_ => [⟨3, vPtr k_code_look, p0⟩]) rfl (fun gs_ => l_fa (o_t rfl) fl_code_look_0 fa51_0 (lt rfl)) (fun gs_ => .b rfl rfl (.nil)) .n (fun _ => rfl) rfl (fun _ _ _ => rfl) (.x (f := fun gs_ => ⟨82, vPtr (kSlice (kInt .i64)), p0.c.Slots⟩) 0 (fun gs_ => [⟨81, vPtr k_aCode, p0.c⟩]) rfl (fun gs_ => l_fa (o_t rfl) fl_aCode_0 fa30_0 (lt rfl)) (fun gs_ => .d 2 rfl rfl (.nil)) .n (fun _ => rfl) rfl (fun _ _ _ => rfl) (.x (f := fun gs_ => ⟨83, vSlice (kInt .i64), p0.c.Slots⟩) 0 (fun gs_ => [⟨82, vPtr (kSlice (kInt .i64)), p0.c.Slots⟩]) rfl (fun gs_ => l_ld (o_t rfl) ty22 (lt rfl)) (fun gs_ => .d 3 rfl rfl (.nil)) .n (fun _ => rfl) rfl (fun _ _ _ => rfl) (.x (f := fun gs_ => ⟨84, vPtr (kInt .i64), p1.A⟩) 0 (fun gs_ => [⟨4, vPtr k_aIns, p1⟩]) rfl (fun gs_ => l_fa (o_t rfl) fl_aIns_2 fa75_2 (lt rfl)) (fun gs_ => .b rfl rfl (.nil)) .n (fun _ => rfl) rfl (fun _ _ _ => rfl) (.x (f := fun gs_ => ⟨85, vInt .i64, p1.A⟩) 0 (fun gs_ => [⟨84, vPtr (kInt .i64), p1.A⟩]) rfl (fun gs_ => l_ld (o_t rfl) ty3 (lt rfl)) (fun gs_ => .d 5 rfl rfl (.nil)) .n (fun _ => rfl) rfl (fun _ _ _ => rfl) (.x (f := fun gs_ => ⟨86, vPtr (kInt .i64), t22⟩) 0 (fun gs_ => [⟨83, vSlice (kInt .i64), p0.c.Slots⟩, ⟨85, vInt .i64, p1.A⟩]) rfl (fun gs_ => l_ia (o_t rfl) (o_t rfl) h23 sl22 sz3 (lt rfl)) (fun gs_ => .d 4 rfl rfl (.d 6 rfl rfl (.nil))) .n (fun _ => rfl) rfl (fun _ _ _ => rfl) (.x (f := fun gs_ => ⟨87, vInt .i64, t22⟩) 0 (fun gs_ => [⟨86, vPtr (kInt .i64), t22⟩]) rfl (fun gs_ => l_ld (o_t rfl) ty3 (lt rfl)) (fun gs_ => .d 7 rfl rfl (.nil)) .n (fun _ => rfl) rfl (fun _ _ _ => rfl) (.x (f := fun gs_ => ⟨88, (k_aBits).v, (aBits.mk t22 0 0)⟩) 0 (fun gs_ => [⟨87, vInt .i64, t22⟩]) rfl (fun gs_ => l_build zr72 (.cons (o_t rfl) fl_aBits_0 ft72_0 (.nil)) rfl stb72 (lt rfl)) (fun gs_ => .d 8 rfl rfl (.nil)) .n (fun _ => rfl) rfl (fun _ _ _ => rfl) (.x (f := fun gs_ => ⟨89, (k_aBits).v, s1_⟩) 0 (fun gs_ => [⟨7, vLoc, (b9, 0)⟩]) rfl (fun gs_ => l_ldm (i := 0) (o_t rfl) rfl (Fld.refl _) ty72 (lt rfl)) (fun gs_ => .b rfl rfl (.nil)) .n (fun _ => rfl) rfl (fun _ _ _ => rfl) (.x (f := fun gs_ => ⟨90, vPtr (kInt .i64), p1.N⟩) 0 (fun gs_ => [⟨4, vPtr k_aIns, p1⟩]) rfl (fun gs_ => l_fa (o_t rfl) fl_aIns_4 fa75_4 (lt rfl)) (fun gs_ => .b rfl rfl (.nil)) .n (fun _ => rfl) rfl (fun _ _ _ => rfl) (.x (f := fun gs_ => ⟨91, vInt .i64, p1.N⟩) 0 (fun gs_ => [⟨90, vPtr (kInt .i64), p1.N⟩]) rfl (fun gs_ => l_ld (o_t rfl) ty3 (lt rfl)) (fun gs_ => .d 11 rfl rfl (.nil)) .n (fun _ => rfl) rfl (fun _ _ _ => rfl) (.x (f := fun gs_ => ⟨92, vPtr (kInt .i64), p1.M⟩) 0 (fun gs_ => [⟨4, vPtr k_aIns, p1⟩]) rfl (fun gs_ => l_fa (o_t rfl) fl_aIns_5 fa75_5 (lt rfl)) (fun gs_ => .b rfl rfl (.nil)) .n (fun _ => rfl) rfl (fun _ _ _ => rfl) (.x (f := fun gs_ => ⟨93, vInt .i64, p1.M⟩) 0 (fun gs_ => [⟨92, vPtr (kInt .i64), p1.M⟩]) rfl (fun gs_ => l_ld (o_t rfl) ty3 (lt rfl)) (fun gs_ => .d 13 rfl rfl (.nil)) .n (fun _ => rfl) rfl (fun _ _ _ => rfl) (.x (f := fun gs_ => ⟨94, vTup (vlCons ((k_aBits).v) (vlCons (vInt .i64) vlNil)), t24⟩) 0 (fun gs_ => [⟨80, vInt .u8, p1.By⟩, ⟨88, (k_aBits).v, (aBits.mk t22 0 0)⟩, ⟨89, (k_aBits).v, s1_⟩, ⟨91, vInt .i64, p1.N⟩, ⟨93, vInt .i64, p1.M⟩]) rfl (fun gs_ => l_call (ok107 p1.By (aBits.mk t22 0 0) s1_ p1.N p1.M _ h25) (.cons (o_t rfl) (.cons (o_t rfl) (.cons (o_t rfl) (.cons (o_t rfl) (.cons (o_t rfl) (.nil)))))) (lt rfl)) (fun gs_ => .d 1 rfl rfl (.d 9 rfl rfl (.d 10 rfl rfl (.d 12 rfl rfl (.d 14 rfl rfl (.nil)))))) .n (fun _ => rfl) rfl (fun _ _ _ => rfl) (.x (f := fun gs_ => ⟨78, vTup (vlCons ((k_aBits).v) (vlCons (vInt .i64) vlNil)), t24⟩) 0 (fun gs_ => [⟨94, vTup (vlCons ((k_aBits).v) (vlCons (vInt .i64) vlNil)), t24⟩]) rfl (fun gs_ => l_move (o_t rfl) (lt rfl)) (fun gs_ => .d 15 rfl rfl (.nil)) .n (fun _ => rfl) rfl (fun _ _ _ => rfl) (.x (f := fun gs_ => ⟨95, (k_aBits).v, t24.1⟩) 0 (fun gs_ => [⟨78, vTup (vlCons ((k_aBits).v) (vlCons (vInt .i64) vlNil)), t24⟩]) rfl (fun gs_ => l_ext (x := t24) (L := (vlCons ((k_aBits).v) (vlCons (vInt .i64) vlNil))) (get := fun x => x.1) (o_t rfl) VGet.z (lt rfl)) (fun gs_ => .d 16 rfl rfl (.nil)) .n (fun _ => rfl) rfl (fun _ _ _ => rfl) (.x (f := fun gs_ => ⟨96, vInt .i64, t24.2.1⟩) 0 (fun gs_ => [⟨78, vTup (vlCons ((k_aBits).v) (vlCons (vInt .i64) vlNil)), t24⟩]) rfl (fun gs_ => l_ext (x := t24) (L := (vlCons ((k_aBits).v) (vlCons (vInt .i64) vlNil))) (get := fun x => x.2.1) (o_t rfl) (VGet.s VGet.z) (lt rfl)) (fun gs_ => .d 16 rfl rfl (.nil)) .n (fun _ => rfl) rfl (fun _ _ _ => rfl) (.e (f := fun gs_ => some ⟨8, vLoc, ((blk (gg gs_ 0)), 0)⟩) 0 (fun gs_ => []) rfl (fun gs_ hg_ => by obtain rfl := len0 hg_; show LocX _ _ _ [rBox b9 72 k_aBits s1_] _ (fun gh26_ => some ⟨8, vLoc, ((blk gh26_), 0)⟩) (fun gh26_ => [rBox b9 72 k_aBits s1_, rBox (blk gh26_) 72 k_aBits (aBits.mk 0 0 0)]); exact e_alloc zr72 (lt rfl)) (fun gs_ => .nil) .n (fun _ => rfl) rfl (by intro gs_ v_ h_; simp only [gg_app (show 0 < gs_.length by omega)]) (.e (f := fun gs_ => none) 1 (fun gs_ => [⟨8, vLoc, ((blk (gg gs_ 0)), 0)⟩, ⟨95, (k_aBits).v, t24.1⟩]) rfl (fun gs_ hg_ => by obtain ⟨gh26_, rfl⟩ := len1 hg_; show LocX _ _ _ [rBox b9 72 k_aBits s1_, rBox (blk gh26_) 72 k_aBits (aBits.mk 0 0 0)] _ (fun gh901_ => none) (fun gh901_ => [rBox b9 72 k_aBits s1_, rBox (blk gh26_) 72 k_aBits t24.1]); exact e_stm (i := 1) (o_t rfl) (o_t rfl) rfl (Fld.refl _) sz72) (fun gs_ => .d 19 rfl rfl (.d 17 rfl rfl (.nil))) .n (fun _ => rfl) rfl (fun _ _ _ => rfl) (.x (f := fun gs_ => ⟨9, vInt .i64, t24.2.1⟩) 2 (fun gs_ => [⟨96, vInt .i64, t24.2.1⟩]) rfl (fun gs_ => l_assign (o_t rfl) (lt rfl)) (fun gs_ => .d 18 rfl rfl (.nil)) .n (fun _ => rfl) rfl (fun _ _ _ => rfl) (.nil))))))))))))))))))))))) (fun gs_ hgs_ => ?_)
                obtain ⟨gh26_, gh901_, rfl⟩ := len2 hgs_
                show Kx _ _ [rBox b9 72 k_aBits s1_, rBox (blk gh26_) 72 k_aBits t24.1] _ _
                refine k_frzb (s := 8) (i := 1) rfl rfl ?_
                refine k_seq ?_
                refine t_seq ?_
                refine t_reg ?_
                refine st (l_move (o_t rfl) (lt rfl)) ?_
                refine st (l_cmp (o_t rfl) (o_i) .eql (lt rfl)) ?_
                refine st (l_move (o_t rfl) (lt rfl)) ?_
                rcases bt (t24.2.1 == (0 : Int)) with hb28 | hb28
                · rw [if_neg (nt hb28)] at hp_
                  refine g_n ⟨99, vBool, t24.2.1 == (0 : Int)⟩ rfl rfl (noy_b (b := true) hb28) (lt rfl) ?_
                  refine g_n ⟨99, vBool, t24.2.1 == (0 : Int)⟩ rfl rfl (noy_b (b := true) hb28) (lt rfl) ?_
                  refine g_n ⟨99, vBool, t24.2.1 == (0 : Int)⟩ rfl rfl (noy_b (b := true) hb28) (lt rfl) ?_
                  refine g_n ⟨99, vBool, t24.2.1 == (0 : Int)⟩ rfl rfl (noy_b (b := true) hb28) (lt rfl) ?_
                  refine g_n ⟨99, vBool, t24.2.1 == (0 : Int)⟩ rfl rfl (noy_b (b := true) hb28) (lt rfl) ?_
                  refine g_n ⟨99, vBool, t24.2.1 == (0 : Int)⟩ rfl rfl (noy_b (b := true) hb28) (lt rfl) ?_
                  refine st (l_pickf (o_t rfl) hb28 (o_b) (lt rfl)) ?_
                  refine st (l_assign (o_t rfl) (lt rfl)) ?_
                  refine r_nil (k_seq ?_)
                  cases hp_
                  exact t_ret (k_drop <| k_ret () rfl rfl rfl rfl rfl)
                · rw [if_pos hb28] at hp_
                  refine g_t rfl rfl hb28 ?_
                  refine st (l_ld (o_t rfl) ty51 (lt rfl)) ?_
                  refine g_t rfl rfl hb28 ?_
                  refine st (l_fa (o_t rfl) fl_aIns_1 fa75_1 (lt rfl)) ?_
                  refine g_t rfl rfl hb28 ?_
                  refine st (l_ld (o_t rfl) ty3 (lt rfl)) ?_
                  refine g_t rfl rfl hb28 ?_
                  refine st (l_fa (o_t rfl) fl_aBits_0 fa72_0 (lt rfl)) ?_
                  refine g_t rfl rfl hb28 ?_
                  refine st (l_ld (o_t rfl) ty3 (lt rfl)) ?_
                  refine g_t rfl rfl hb28 ?_
                  obtain ⟨t29, h30, hp_⟩ := bs hp_
                  refine st (l_call (ok45 p0 p1.To t24.1.W _ h30) (.cons (o_t rfl) (.cons (o_t rfl) (.cons (o_t rfl) (.nil)))) (lt rfl)) ?_
                  refine st (l_pickt (o_t rfl) hb28 (o_t rfl) (lt rfl)) ?_
                  refine st (l_assign (o_t rfl) (lt rfl)) ?_
                  refine r_nil (k_seq ?_)
                  cases hp_
                  exact t_ret (k_drop <| k_ret () rfl rfl rfl rfl rfl)
              · rw [if_pos hb21] at hp_
                refine g_t rfl rfl hb21 ?_
                refine st (l_fa (o_t rfl) fl_aIns_8 fa75_8 (lt rfl)) ?_
                refine g_t rfl rfl hb21 ?_
                refine st (l_ld (o_t rfl) ty73 (lt rfl)) ?_
                refine g_t rfl rfl hb21 ?_
                refine st (l_cmp (o_t rfl) (o_i) .neq (lt rfl)) ?_
                refine g_t rfl rfl rfl ?_
                refine st (l_pickt (o_t rfl) hb21 (o_t rfl) (lt rfl)) ?_
                refine g_t rfl rfl rfl ?_
                refine st (l_move (o_t rfl) (lt rfl)) ?_
                rcases bt (p1.By != (15 : Int)) with hb31 | hb31
                · rw [if_neg (nt hb31)] at hp_
                  refine g_n ⟨72, vBool, p1.By != (15 : Int)⟩ rfl rfl (noy_b (b := true) hb31) (lt rfl) ?_
                  refine g_n ⟨72, vBool, p1.By != (15 : Int)⟩ rfl rfl (noy_b (b := true) hb31) (lt rfl) ?_
                  refine g_n ⟨72, vBool, p1.By != (15 : Int)⟩ rfl rfl (noy_b (b := true) hb31) (lt rfl) ?_
                  refine g_t rfl rfl rfl ?_
                  refine st (l_pickf (o_t rfl) hb31 (o_b) (lt rfl)) ?_
                  refine st (l_pickf (o_t rfl) rfl (o_t rfl) (lt rfl)) ?_
                  refine r_nil (k_seq ?_)
                  refine t_iff (o_t rfl) rfl ?_
                  refine t_skip (k_seq ?_)
                  refine t_seq ?_
                  obtain ⟨t32, h33, hp_⟩ := bs hp_
                  obtain ⟨t34, h35, hp_⟩ := bs hp_
                  refine t_draw [(0, fun gs_ => some ⟨79, vPtr (kInt .u8), p1.By⟩), (0, fun gs_ => some ⟨80, vInt .u8, p1.By⟩), (0, fun gs_ => some ⟨81, vPtr k_aCode, p0.c⟩), (0, fun gs_ => some ⟨82, vPtr (kSlice (kInt .i64)), p0.c.Slots⟩), (0, fun gs_ => some ⟨83, vSlice (kInt .i64), p0.c.Slots⟩), (0, fun gs_ => some ⟨84, vPtr (kInt .i64), p1.A⟩), (0, fun gs_ => some ⟨85, vInt .i64, p1.A⟩), (0, fun gs_ => some ⟨86, vPtr (kInt .i64), t32⟩), (0, fun gs_ => some ⟨87, vInt .i64, t32⟩), (0, fun gs_ => some ⟨88, (k_aBits).v, (aBits.mk t32 0 0)⟩), (0, fun gs_ => some ⟨89, (k_aBits).v, s1_⟩), (0, fun gs_ => some ⟨90, vPtr (kInt .i64), p1.N⟩), (0, fun gs_ => some ⟨91, vInt .i64, p1.N⟩), (0, fun gs_ => some ⟨92, vPtr (kInt .i64), p1.M⟩), (0, fun gs_ => some ⟨93, vInt .i64, p1.M⟩), (0, fun gs_ => some ⟨94, vTup (vlCons ((k_aBits).v) (vlCons (vInt .i64) vlNil)), t34⟩), (0, fun gs_ => some ⟨78, vTup (vlCons ((k_aBits).v) (vlCons (vInt .i64) vlNil)), t34⟩), (0, fun gs_ => some ⟨95, (k_aBits).v, t34.1⟩), (0, fun gs_ => some ⟨96, vInt .i64, t34.2.1⟩), (1, fun gs_ => some ⟨8, vLoc, ((blk (gg gs_ 0)), 0)⟩), (2, fun gs_ => none), (2, fun gs_ => some ⟨9, vInt .i64, t34.2.1⟩)] mixed rfl rfl (fun gs_ => [rBox b9 72 k_aBits s1_] ++ ph gs_ [fun gs_ => [], fun gs_ => [rBox (blk (gg gs_ 0)) 72 k_aBits (aBits.mk 0 0 0)], fun gs_ => [rBox (blk (gg gs_ 0)) 72 k_aBits t34.1]]) [19, 20] rfl (.x (f := fun gs_ => ⟨79, vPtr (kInt .u8), p1.By⟩) 0 (fun gs_ => [⟨4, vPtr k_aIns, p1⟩]) rfl (fun gs_ => l_fa (o_t rfl) fl_aIns_8 fa75_8 (lt rfl)) (fun gs_ => .b rfl rfl (.nil)) .n (fun _ => rfl) rfl (fun _ _ _ => rfl) (.x (f := fun gs_ => ⟨80, vInt .u8, p1.By⟩) 0 (fun gs_ => [⟨79, vPtr (kInt .u8), p1.By⟩]) rfl (fun gs_ => l_ld (o_t rfl) ty73 (lt rfl)) (fun gs_ => .d 0 rfl rfl (.nil)) .n (fun _ => rfl) rfl (fun _ _ _ => rfl) (.x (f := fun gs_ => ⟨81, vPtr k_aCode, p0.c⟩) 0 (fun gs_ => [⟨3, vPtr k_code_look, p0⟩]) rfl (fun gs_ => l_fa (o_t rfl) fl_code_look_0 fa51_0 (lt rfl)) (fun gs_ => .b rfl rfl (.nil)) .n (fun _ => rfl) rfl (fun _ _ _ => rfl) (.x (f := fun gs_ => ⟨82, vPtr (kSlice (kInt .i64)), p0.c.Slots⟩) 0 (fun gs_ => [⟨81, vPtr k_aCode, p0.c⟩]) rfl (fun gs_ => l_fa (o_t rfl) fl_aCode_0 fa30_0 (lt rfl)) (fun gs_ => .d 2 rfl rfl (.nil)) .n (fun _ => rfl) rfl (fun _ _ _ => rfl) (.x (f := fun gs_ => ⟨83, vSlice (kInt .i64), p0.c.Slots⟩) 0 (fun gs_ => [⟨82, vPtr (kSlice (kInt .i64)), p0.c.Slots⟩]) rfl (fun gs_ => l_ld (o_t rfl) ty22 (lt rfl)) (fun gs_ => .d 3 rfl rfl (.nil)) .n (fun _ => rfl) rfl (fun _ _ _ => rfl) (.x (f := fun gs_ => ⟨84, vPtr (kInt .i64), p1.A⟩) 0 (fun gs_ => [⟨4, vPtr k_aIns, p1⟩]) rfl (fun gs_ => l_fa (o_t rfl) fl_aIns_2 fa75_2 (lt rfl)) (fun gs_ => .b rfl rfl (.nil)) .n (fun _ => rfl) rfl (fun _ _ _ => rfl) (.x (f := fun gs_ => ⟨85, vInt .i64, p1.A⟩) 0 (fun gs_ => [⟨84, vPtr (kInt .i64), p1.A⟩]) rfl (fun gs_ => l_ld (o_t rfl) ty3 (lt rfl)) (fun gs_ => .d 5 rfl rfl (.nil)) .n (fun _ => rfl) rfl (fun _ _ _ => rfl) (.x (f := fun gs_ => ⟨86, vPtr (kInt .i64), t32⟩) 0 (fun gs_ => [⟨83, vSlice (kInt .i64), p0.c.Slots⟩, ⟨85, vInt .i64, p1.A⟩]) rfl (fun gs_ => l_ia (o_t rfl) (o_t rfl) h33 sl22 sz3 (lt rfl)) (fun gs_ => .d 4 rfl rfl (.d 6 rfl rfl (.nil))) .n (fun _ => rfl) rfl (fun _ _ _ => rfl) (.x (f := fun gs_ => ⟨87, vInt .i64, t32⟩) 0 (fun gs_ => [⟨86, vPtr (kInt .i64), t32⟩]) rfl (fun gs_ => l_ld (o_t rfl) ty3 (lt rfl)) (fun gs_ => .d 7 rfl rfl (.nil)) .n (fun _ => rfl) rfl (fun _ _ _ => rfl) (.x (f := fun gs_ => ⟨88, (k_aBits).v, (aBits.mk t32 0 0)⟩) 0 (fun gs_ => [⟨87, vInt .i64, t32⟩]) rfl (fun gs_ => l_build zr72 (.cons (o_t rfl) fl_aBits_0 ft72_0 (.nil)) rfl stb72 (lt rfl)) (fun gs_ => .d 8 rfl rfl (.nil)) .n (fun _ => rfl) rfl (fun _ _ _ => rfl) (.x (f := fun gs_ => ⟨89, (k_aBits).v, s1_⟩) 0 (fun gs_ => [⟨7, vLoc, (b9, 0)⟩]) rfl (fun gs_ => l_ldm (i := 0) (o_t rfl) rfl (Fld.refl _) ty72 (lt rfl)) (fun gs_ => .b rfl rfl (.nil)) .n (fun _ => rfl) rfl (fun _ _ _ => rfl) (.x (f := fun gs_ => ⟨90, vPtr (kInt .i64), p1.N⟩) 0 (fun gs_ => [⟨4, vPtr k_aIns, p1⟩]) rfl (fun gs_ => l_fa (o_t rfl) fl_aIns_4 fa75_4 (lt rfl)) (fun gs_ => .b rfl rfl (.nil)) .n (fun _ => rfl) rfl (fun _ _ _ => rfl) (.x (f := fun gs_ => ⟨91, vInt .i64, p1.N⟩) 0 (fun gs_ => [⟨90, vPtr (kInt .i64), p1.N⟩]) rfl (fun gs_ => l_ld (o_t rfl) ty3 (lt rfl)) (fun gs_ => .d 11 rfl rfl (.nil)) .n (fun _ => rfl) rfl (fun _ _ _ => rfl) (.x (f := fun gs_ => ⟨92, vPtr (kInt .i64), p1.M⟩) 0 (fun gs_ => [⟨4, vPtr k_aIns, p1⟩]) rfl (fun gs_ => l_fa (o_t rfl) fl_aIns_5 fa75_5 (lt rfl)) (fun gs_ => .b rfl rfl (.nil)) .n (fun _ => rfl) rfl (fun _ _ _ => rfl) (.x (f := fun gs_ => ⟨93, vInt .i64, p1.M⟩) 0 (fun gs_ => [⟨92, vPtr (kInt .i64), p1.M⟩]) rfl (fun gs_ => l_ld (o_t rfl) ty3 (lt rfl)) (fun gs_ => .d 13 rfl rfl (.nil)) .n (fun _ => rfl) rfl (fun _ _ _ => rfl) (.x (f := fun gs_ => ⟨94, vTup (vlCons ((k_aBits).v) (vlCons (vInt .i64) vlNil)), t34⟩) 0 (fun gs_ => [⟨80, vInt .u8, p1.By⟩, ⟨88, (k_aBits).v, (aBits.mk t32 0 0)⟩, ⟨89, (k_aBits).v, s1_⟩, ⟨91, vInt .i64, p1.N⟩, ⟨93, vInt .i64, p1.M⟩]) rfl (fun gs_ => l_call (ok107 p1.By (aBits.mk t32 0 0) s1_ p1.N p1.M _ h35) (.cons (o_t rfl) (.cons (o_t rfl) (.cons (o_t rfl) (.cons (o_t rfl) (.cons (o_t rfl) (.nil)))))) (lt rfl)) (fun gs_ => .d 1 rfl rfl (.d 9 rfl rfl (.d 10 rfl rfl (.d 12 rfl rfl (.d 14 rfl rfl (.nil)))))) .n (fun _ => rfl) rfl (fun _ _ _ => rfl) (.x (f := fun gs_ => ⟨78, vTup (vlCons ((k_aBits).v) (vlCons (vInt .i64) vlNil)), t34⟩) 0 (fun gs_ => [⟨94, vTup (vlCons ((k_aBits).v) (vlCons (vInt .i64) vlNil)), t34⟩]) rfl (fun gs_ => l_move (o_t rfl) (lt rfl)) (fun gs_ => .d 15 rfl rfl (.nil)) .n (fun _ => rfl) rfl (fun _ _ _ => rfl) (.x (f := fun gs_ => ⟨95, (k_aBits).v, t34.1⟩) 0 (fun gs_ => [⟨78, vTup (vlCons ((k_aBits).v) (vlCons (vInt .i64) vlNil)), t34⟩]) rfl (fun gs_ => l_ext (x := t34) (L := (vlCons ((k_aBits).v) (vlCons (vInt .i64) vlNil))) (get := fun x => x.1) (o_t rfl) VGet.z (lt rfl)) (fun gs_ => .d 16 rfl rfl (.nil)) .n (fun _ => rfl) rfl (fun _ _ _ => rfl) (.x (f := fun gs_ => ⟨96, vInt .i64, t34.2.1⟩) 0 (fun gs_ => [⟨78, vTup (vlCons ((k_aBits).v) (vlCons (vInt .i64) vlNil)), t34⟩]) rfl (fun gs_ => l_ext (x := t34) (L := (vlCons ((k_aBits).v) (vlCons (vInt .i64) vlNil))) (get := fun x => x.2.1) (o_t rfl) (VGet.s VGet.z) (lt rfl)) (fun gs_ => .d 16 rfl rfl (.nil)) .n (fun _ => rfl) rfl (fun _ _ _ => rfl) (.e (f := fun gs_ => some ⟨8, vLoc, ((blk (gg gs_ 0)), 0)⟩) 0 (fun gs_ => []) rfl (fun gs_ hg_ => by obtain rfl := len0 hg_; show LocX _ _ _ [rBox b9 72 k_aBits s1_] _ (fun gh36_ => some ⟨8, vLoc, ((blk gh36_), 0)⟩) (fun gh36_ => [rBox b9 72 k_aBits s1_, rBox (blk gh36_) 72 k_aBits (aBits.mk 0 0 0)]); exact e_alloc zr72 (lt rfl)) (fun gs_ => .nil) .n (fun _ => rfl) rfl (by intro gs_ v_ h_; simp only [gg_app (show 0 < gs_.length by omega)]) (.e (f := fun gs_ => none) 1 (fun gs_ => [⟨8, vLoc, ((blk (gg gs_ 0)), 0)⟩, ⟨95, (k_aBits).v, t34.1⟩]) rfl (fun gs_ hg_ => by obtain ⟨gh36_, rfl⟩ := len1 hg_; show LocX _ _ _ [rBox b9 72 k_aBits s1_, rBox (blk gh36_) 72 k_aBits (aBits.mk 0 0 0)] _ (fun gh901_ => none) (fun gh901_ => [rBox b9 72 k_aBits s1_, rBox (blk gh36_) 72 k_aBits t34.1]); exact e_stm (i := 1) (o_t rfl) (o_t rfl) rfl (Fld.refl _) sz72) (fun gs_ => .d 19 rfl rfl (.d 17 rfl rfl (.nil))) .n (fun _ => rfl) rfl (fun _ _ _ => rfl) (.x (f := fun gs_ => ⟨9, vInt .i64, t34.2.1⟩) 2 (fun gs_ => [⟨96, vInt .i64, t34.2.1⟩]) rfl (fun gs_ => l_assign (o_t rfl) (lt rfl)) (fun gs_ => .d 18 rfl rfl (.nil)) .n (fun _ => rfl) rfl (fun _ _ _ => rfl) (.nil))))))))))))))))))))))) (fun gs_ hgs_ => ?_)
                  obtain ⟨gh36_, gh901_, rfl⟩ := len2 hgs_
                  show Kx _ _ [rBox b9 72 k_aBits s1_, rBox (blk gh36_) 72 k_aBits t34.1] _ _
                  refine k_frzb (s := 8) (i := 1) rfl rfl ?_
                  refine k_seq ?_
                  refine t_seq ?_
                  refine t_reg ?_
                  refine st (l_move (o_t rfl) (lt rfl)) ?_
                  refine st (l_cmp (o_t rfl) (o_i) .eql (lt rfl)) ?_
                  refine st (l_move (o_t rfl) (lt rfl)) ?_
                  rcases bt (t34.2.1 == (0 : Int)) with hb38 | hb38
                  · rw [if_neg (nt hb38)] at hp_
                    refine g_n ⟨99, vBool, t34.2.1 == (0 : Int)⟩ rfl rfl (noy_b (b := true) hb38) (lt rfl) ?_
                    refine g_n ⟨99, vBool, t34.2.1 == (0 : Int)⟩ rfl rfl (noy_b (b := true) hb38) (lt rfl) ?_
                    refine g_n ⟨99, vBool, t34.2.1 == (0 : Int)⟩ rfl rfl (noy_b (b := true) hb38) (lt rfl) ?_
                    refine g_n ⟨99, vBool, t34.2.1 == (0 : Int)⟩ rfl rfl (noy_b (b := true) hb38) (lt rfl) ?_
                    refine g_n ⟨99, vBool, t34.2.1 == (0 : Int)⟩ rfl rfl (noy_b (b := true) hb38) (lt rfl) ?_
                    refine g_n ⟨99, vBool, t34.2.1 == (0 : Int)⟩ rfl rfl (noy_b (b := true) hb38) (lt rfl) ?_
                    refine st (l_pickf (o_t rfl) hb38 (o_b) (lt rfl)) ?_
                    refine st (l_assign (o_t rfl) (lt rfl)) ?_
                    refine r_nil (k_seq ?_)
                    cases hp_
                    exact t_ret (k_drop <| k_ret () rfl rfl rfl rfl rfl)
                  · rw [if_pos hb38] at hp_
                    refine g_t rfl rfl hb38 ?_
                    refine st (l_ld (o_t rfl) ty51 (lt rfl)) ?_
                    refine g_t rfl rfl hb38 ?_
                    refine st (l_fa (o_t rfl) fl_aIns_1 fa75_1 (lt rfl)) ?_
                    refine g_t rfl rfl hb38 ?_
                    refine st (l_ld (o_t rfl) ty3 (lt rfl)) ?_
                    refine g_t rfl rfl hb38 ?_
                    refine st (l_fa (o_t rfl) fl_aBits_0 fa72_0 (lt rfl)) ?_
                    refine g_t rfl rfl hb38 ?_
                    refine st (l_ld (o_t rfl) ty3 (lt rfl)) ?_
                    refine g_t rfl rfl hb38 ?_
                    obtain ⟨t39, h40, hp_⟩ := bs hp_
                    refine st (l_call (ok45 p0 p1.To t34.1.W _ h40) (.cons (o_t rfl) (.cons (o_t rfl) (.cons (o_t rfl) (.nil)))) (lt rfl)) ?_
                    refine st (l_pickt (o_t rfl) hb38 (o_t rfl) (lt rfl)) ?_
                    refine st (l_assign (o_t rfl) (lt rfl)) ?_
                    refine r_nil (k_seq ?_)
                    cases hp_
                    exact t_ret (k_drop <| k_ret () rfl rfl rfl rfl rfl)
                · rw [if_pos hb31] at hp_
                  refine g_t rfl rfl hb31 ?_
                  refine st (l_fa (o_t rfl) fl_aIns_8 fa75_8 (lt rfl)) ?_
                  refine g_t rfl rfl hb31 ?_
                  refine st (l_ld (o_t rfl) ty73 (lt rfl)) ?_
                  refine g_t rfl rfl hb31 ?_
                  refine st (l_cmp (o_t rfl) (o_i) .neq (lt rfl)) ?_
                  refine g_t rfl rfl rfl ?_
                  refine st (l_pickt (o_t rfl) hb31 (o_t rfl) (lt rfl)) ?_
                  refine st (l_pickf (o_t rfl) rfl (o_t rfl) (lt rfl)) ?_
                  refine r_nil (k_seq ?_)
                  rcases bt (p1.By != (16 : Int)) with hb41 | hb41
                  · rw [if_neg (nt hb41)] at hp_
                    refine t_iff (o_t rfl) hb41 ?_
                    refine t_skip (k_seq ?_)
                    refine t_seq ?_
                    obtain ⟨t42, h43, hp_⟩ := bs hp_
                    obtain ⟨t44, h45, hp_⟩ := bs hp_
                    refine t_draw [(0, fun gs_ => some ⟨79, vPtr (kInt .u8), p1.By⟩), (0, fun gs_ => some ⟨80, vInt .u8, p1.By⟩), (0, fun gs_ => some ⟨81, vPtr k_aCode, p0.c⟩), (0, fun gs_ => some ⟨82, vPtr (kSlice (kInt .i64)), p0.c.Slots⟩), (0, fun gs_ => some ⟨83, vSlice (kInt .i64), p0.c.Slots⟩), (0, fun gs_ => some ⟨84, vPtr (kInt .i64), p1.A⟩), (0, fun gs_ => some ⟨85, vInt .i64, p1.A⟩), (0, fun gs_ => some ⟨86, vPtr (kInt .i64), t42⟩), (0, fun gs_ => some ⟨87, vInt .i64, t42⟩), (0, fun gs_ => some ⟨88, (k_aBits).v, (aBits.mk t42 0 0)⟩), (0, fun gs_ => some ⟨89, (k_aBits).v, s1_⟩), (0, fun gs_ => some ⟨90, vPtr (kInt .i64), p1.N⟩), (0, fun gs_ => some ⟨91, vInt .i64, p1.N⟩), (0, fun gs_ => some ⟨92, vPtr (kInt .i64), p1.M⟩), (0, fun gs_ => some ⟨93, vInt .i64, p1.M⟩), (0, fun gs_ => some ⟨94, vTup (vlCons ((k_aBits).v) (vlCons (vInt .i64) vlNil)), t44⟩), (0, fun gs_ => some ⟨78, vTup (vlCons ((k_aBits).v) (vlCons (vInt .i64) vlNil)), t44⟩), (0, fun gs_ => some ⟨95, (k_aBits).v, t44.1⟩), (0, fun gs_ => some ⟨96, vInt .i64, t44.2.1⟩), (1, fun gs_ => some ⟨8, vLoc, ((blk (gg gs_ 0)), 0)⟩), (2, fun gs_ => none), (2, fun gs_ => some ⟨9, vInt .i64, t44.2.1⟩)] mixed rfl rfl (fun gs_ => [rBox b9 72 k_aBits s1_] ++ ph gs_ [fun gs_ => [], fun gs_ => [rBox (blk (gg gs_ 0)) 72 k_aBits (aBits.mk 0 0 0)], fun gs_ => [rBox (blk (gg gs_ 0)) 72 k_aBits t44.1]]) [19, 20] rfl (.x (f := fun gs_ => ⟨79, vPtr (kInt .u8), p1.By⟩) 0 (fun gs_ => [⟨4, vPtr k_aIns, p1⟩]) rfl (fun gs_ => l_fa (o_t rfl) fl_aIns_8 fa75_8 (lt rfl)) (fun gs_ => .b rfl rfl (.nil)) .n (fun _ => rfl) rfl (fun _ _ _ => rfl) (.x (f := fun gs_ => ⟨80, vInt .u8, p1.By⟩) 0 (fun gs_ => [⟨79, vPtr (kInt .u8), p1.By⟩]) rfl (fun gs_ => l_ld (o_t rfl) ty73 (lt rfl)) (fun gs_ => .d 0 rfl rfl (.nil)) .n (fun _ => rfl) rfl (fun _ _ _ => rfl) (.x (f := fun gs_ => ⟨81, vPtr k_aCode, p0.c⟩) 0 (fun gs_ => [⟨3, vPtr k_code_look, p0⟩]) rfl (fun gs_ => l_fa (o_t rfl) fl_code_look_0 fa51_0 (lt rfl)) (fun gs_ => .b rfl rfl (.nil)) .n (fun _ => rfl) rfl (fun _ _ _ => rfl) (.x (f := fun gs_ => ⟨82, vPtr (kSlice (kInt .i64)), p0.c.Slots⟩) 0 (fun gs_ => [⟨81, vPtr k_aCode, p0.c⟩]) rfl (fun gs_ => l_fa (o_t rfl) fl_aCode_0 fa30_0 (lt rfl)) (fun gs_ => .d 2 rfl rfl (.nil)) .n (fun _ => rfl) rfl (fun _ _ _ => rfl) (.x (f := fun gs_ => ⟨83, vSlice (kInt .i64), p0.c.Slots⟩) 0 (fun gs_ => [⟨82, vPtr (kSlice (kInt .i64)), p0.c.Slots⟩]) rfl (fun gs_ => l_ld (o_t rfl) ty22 (lt rfl)) (fun gs_ => .d 3 rfl rfl (.nil)) .n (fun _ => rfl) rfl (fun _ _ _ => rfl) (.x (f := fun gs_ => ⟨84, vPtr (kInt .i64), p1.A⟩) 0 (fun gs_ => [⟨4, vPtr k_aIns, p1⟩]) rfl (fun gs_ => l_fa (o_t rfl) fl_aIns_2 fa75_2 (lt rfl)) (fun gs_ => .b rfl rfl (.nil)) .n (fun _ => rfl) rfl (fun _ _ _ => rfl) (.x (f := fun gs_ => ⟨85, vInt .i64, p1.A⟩) 0 (fun gs_ => [⟨84, vPtr (kInt .i64), p1.A⟩]) rfl (fun gs_ => l_ld (o_t rfl) ty3 (lt rfl)) (fun gs_ => .d 5 rfl rfl (.nil)) .n (fun _ => rfl) rfl (fun _ _ _ => rfl) (.x (f := fun gs_ => ⟨86, vPtr (kInt .i64), t42⟩) 0 (fun gs_ => [⟨83, vSlice (kInt .i64), p0.c.Slots⟩, ⟨85, vInt .i64, p1.A⟩]) rfl (fun gs_ => l_ia (o_t rfl) (o_t rfl) h43 sl22 sz3 (lt rfl)) (fun gs_ => .d 4 rfl rfl (.d 6 rfl rfl (.nil))) .n (fun _ => rfl) rfl (fun _ _ _ => rfl) (.x (f := fun gs_ => ⟨87, vInt .i64, t42⟩) 0 (fun gs_ => [⟨86, vPtr (kInt .i64), t42⟩]) rfl (fun gs_ => l_ld (o_t rfl) ty3 (lt rfl)) (fun gs_ => .d 7 rfl rfl (.nil)) .n (fun _ => rfl) rfl (fun _ _ _ => rfl) (.x (f := fun gs_ => ⟨88, (k_aBits).v, (aBits.mk t42 0 0)⟩) 0 (fun gs_ => [⟨87, vInt .i64, t42⟩]) rfl (fun gs_ => l_build zr72 (.cons (o_t rfl) fl_aBits_0 ft72_0 (.nil)) rfl stb72 (lt rfl)) (fun gs_ => .d 8 rfl rfl (.nil)) .n (fun _ => rfl) rfl (fun _ _ _ => rfl) (.x (f := fun gs_ => ⟨89, (k_aBits).v, s1_⟩) 0 (fun gs_ => [⟨7, vLoc, (b9, 0)⟩]) rfl (fun gs_ => l_ldm (i := 0) (o_t rfl) rfl (Fld.refl _) ty72 (lt rfl)) (fun gs_ => .b rfl rfl (.nil)) .n (fun _ => rfl) rfl (fun _ _ _ => rfl) (.x (f := fun gs_ => ⟨90, vPtr (kInt .i64), p1.N⟩) 0 (fun gs_ => [⟨4, vPtr k_aIns, p1⟩]) rfl (fun gs_ => l_fa (o_t rfl) fl_aIns_4 fa75_4 (lt rfl)) (fun gs_ => .b rfl rfl (.nil)) .n (fun _ => rfl) rfl (fun _ _ _ => rfl) (.x (f := fun gs_ => ⟨91, vInt .i64, p1.N⟩) 0 (fun gs_ => [⟨90, vPtr (kInt .i64), p1.N⟩]) rfl (fun gs_ => l_ld (o_t rfl) ty3 (lt rfl)) (fun gs_ => .d 11 rfl rfl (.nil)) .n (fun _ => rfl) rfl (fun _ _ _ => rfl) (.x (f := fun gs_ => ⟨92, vPtr (kInt .i64), p1.M⟩) 0 (fun gs_ => [⟨4, vPtr k_aIns, p1⟩]) rfl (fun gs_ => l_fa (o_t rfl) fl_aIns_5 fa75_5 (lt rfl)) (fun gs_ => .b rfl rfl (.nil)) .n (fun _ => rfl) rfl (fun _ _ _ => rfl) (.x (f := fun gs_ => ⟨93, vInt .i64, p1.M⟩) 0 (fun gs_ => [⟨92, vPtr (kInt .i64), p1.M⟩]) rfl (fun gs_ => l_ld (o_t rfl) ty3 (lt rfl)) (fun gs_ => .d 13 rfl rfl (.nil)) .n (fun _ => rfl) rfl (fun _ _ _ => rfl) (.x (f := fun gs_ => ⟨94, vTup (vlCons ((k_aBits).v) (vlCons (vInt .i64) vlNil)), t44⟩) 0 (fun gs_ => [⟨80, vInt .u8, p1.By⟩, ⟨88, (k_aBits).v, (aBits.mk t42 0 0)⟩, ⟨89, (k_aBits).v, s1_⟩, ⟨91, vInt .i64, p1.N⟩, ⟨93, vInt .i64, p1.M⟩]) rfl (fun gs_ => l_call (ok107 p1.By (aBits.mk t42 0 0) s1_ p1.N p1.M _ h45) (.cons (o_t rfl) (.cons (o_t rfl) (.cons (o_t rfl) (.cons (o_t rfl) (.cons (o_t rfl) (.nil)))))) (lt rfl)) (fun gs_ => .d 1 rfl rfl (.d 9 rfl rfl (.d 10 rfl rfl (.d 12 rfl rfl (.d 14 rfl rfl (.nil)))))) .n (fun _ => rfl) rfl (fun _ _ _ => rfl) (.x (f := fun gs_ => ⟨78, vTup (vlCons ((k_aBits).v) (vlCons (vInt .i64) vlNil)), t44⟩) 0 (fun gs_ => [⟨94, vTup (vlCons ((k_aBits).v) (vlCons (vInt .i64) vlNil)), t44⟩]) rfl (fun gs_ => l_move (o_t rfl) (lt rfl)) (fun gs_ => .d 15 rfl rfl (.nil)) .n (fun _ => rfl) rfl (fun _ _ _ => rfl) (.x (f := fun gs_ => ⟨95, (k_aBits).v, t44.1⟩) 0 (fun gs_ => [⟨78, vTup (vlCons ((k_aBits).v) (vlCons (vInt .i64) vlNil)), t44⟩]) rfl (fun gs_ => l_ext (x := t44) (L := (vlCons ((k_aBits).v) (vlCons (vInt .i64) vlNil))) (get := fun x => x.1) (o_t rfl) VGet.z (lt rfl)) (fun gs_ => .d 16 rfl rfl (.nil)) .n (fun _ => rfl) rfl (fun _ _ _ => rfl) (.x (f := fun gs_ => ⟨96, vInt .i64, t44.2.1⟩) 0 (fun gs_ => [⟨78, vTup (vlCons ((k_aBits).v) (vlCons (vInt .i64) vlNil)), t44⟩]) rfl (fun gs_ => l_ext (x := t44) (L := (vlCons ((k_aBits).v) (vlCons (vInt .i64) vlNil))) (get := fun x => x.2.1) (o_t rfl) (VGet.s VGet.z) (lt rfl)) (fun gs_ => .d 16 rfl rfl (.nil)) .n (fun _ => rfl) rfl (fun _ _ _ => rfl) (.e (f := fun gs_ => some ⟨8, vLoc, ((blk (gg gs_ 0)), 0)⟩) 0 (fun gs_ => []) rfl (fun gs_ hg_ => by obtain rfl := len0 hg_; show LocX _ _ _ [rBox b9 72 k_aBits s1_] _ (fun gh46_ => some ⟨8, vLoc, ((blk gh46_), 0)⟩) (fun gh46_ => [rBox b9 72 k_aBits s1_, rBox (blk gh46_) 72 k_aBits (aBits.mk 0 0 0)]); exact e_alloc zr72 (lt rfl)) (fun gs_ => .nil) .n (fun _ => rfl) rfl (by intro gs_ v_ h_; simp only [gg_app (show 0 < gs_.length by omega)]) (.e (f := fun gs_ => none) 1 (fun gs_ => [⟨8, vLoc, ((blk (gg gs_ 0)), 0)⟩, ⟨95, (k_aBits).v, t44.1⟩]) rfl (fun gs_ hg_ => by obtain ⟨gh46_, rfl⟩ := len1 hg_; show LocX _ _ _ [rBox b9 72 k_aBits s1_, rBox (blk gh46_) 72 k_aBits (aBits.mk 0 0 0)] _ (fun gh901_ => none) (fun gh901_ => [rBox b9 72 k_aBits s1_, rBox (blk gh46_) 72 k_aBits t44.1]); exact e_stm (i := 1) (o_t rfl) (o_t rfl) rfl (Fld.refl _) sz72) (fun gs_ => .d 19 rfl rfl (.d 17 rfl rfl (.nil))) .n (fun _ => rfl) rfl (fun _ _ _ => rfl) (.x (f := fun gs_ => ⟨9, vInt .i64, t44.2.1⟩) 2 (fun gs_ => [⟨96, vInt .i64, t44.2.1⟩]) rfl (fun gs_ => l_assign (o_t rfl) (lt rfl)) (fun gs_ => .d 18 rfl rfl (.nil)) .n (fun _ => rfl) rfl (fun _ _ _ => rfl) (.nil))))))))))))))))))))))) (fun gs_ hgs_ => ?_)
                    obtain ⟨gh46_, gh901_, rfl⟩ := len2 hgs_
                    show Kx _ _ [rBox b9 72 k_aBits s1_, rBox (blk gh46_) 72 k_aBits t44.1] _ _
                    refine k_frzb (s := 8) (i := 1) rfl rfl ?_
                    refine k_seq ?_
                    refine t_seq ?_
                    refine t_reg ?_
                    refine st (l_move (o_t rfl) (lt rfl)) ?_
                    refine st (l_cmp (o_t rfl) (o_i) .eql (lt rfl)) ?_
                    refine st (l_move (o_t rfl) (lt rfl)) ?_
                    rcases bt (t44.2.1 == (0 : Int)) with hb48 | hb48
                    · rw [if_neg (nt hb48)] at hp_
                      refine g_n ⟨99, vBool, t44.2.1 == (0 : Int)⟩ rfl rfl (noy_b (b := true) hb48) (lt rfl) ?_
                      refine g_n ⟨99, vBool, t44.2.1 == (0 : Int)⟩ rfl rfl (noy_b (b := true) hb48) (lt rfl) ?_
                      refine g_n ⟨99, vBool, t44.2.1 == (0 : Int)⟩ rfl rfl (noy_b (b := true) hb48) (lt rfl) ?_
                      refine g_n ⟨99, vBool, t44.2.1 == (0 : Int)⟩ rfl rfl (noy_b (b := true) hb48) (lt rfl) ?_
                      refine g_n ⟨99, vBool, t44.2.1 == (0 : Int)⟩ rfl rfl (noy_b (b := true) hb48) (lt rfl) ?_
                      refine g_n ⟨99, vBool, t44.2.1 == (0 : Int)⟩ rfl rfl (noy_b (b := true) hb48) (lt rfl) ?_
                      refine st (l_pickf (o_t rfl) hb48 (o_b) (lt rfl)) ?_
                      refine st (l_assign (o_t rfl) (lt rfl)) ?_
                      refine r_nil (k_seq ?_)
                      cases hp_
                      exact t_ret (k_drop <| k_ret () rfl rfl rfl rfl rfl)
                    · rw [if_pos hb48] at hp_
                      refine g_t rfl rfl hb48 ?_
                      refine st (l_ld (o_t rfl) ty51 (lt rfl)) ?_
                      refine g_t rfl rfl hb48 ?_
                      refine st (l_fa (o_t rfl) fl_aIns_1 fa75_1 (lt rfl)) ?_
                      refine g_t rfl rfl hb48 ?_
                      refine st (l_ld (o_t rfl) ty3 (lt rfl)) ?_
                      refine g_t rfl rfl hb48 ?_
                      refine st (l_fa (o_t rfl) fl_aBits_0 fa72_0 (lt rfl)) ?_
                      refine g_t rfl rfl hb48 ?_
                      refine st (l_ld (o_t rfl) ty3 (lt rfl)) ?_
                      refine g_t rfl rfl hb48 ?_
                      obtain ⟨t49, h50, hp_⟩ := bs hp_
                      refine st (l_call (ok45 p0 p1.To t44.1.W _ h50) (.cons (o_t rfl) (.cons (o_t rfl) (.cons (o_t rfl) (.nil)))) (lt rfl)) ?_
                      refine st (l_pickt (o_t rfl) hb48 (o_t rfl) (lt rfl)) ?_
                      refine st (l_assign (o_t rfl) (lt rfl)) ?_
                      refine r_nil (k_seq ?_)
                      cases hp_
                      exact t_ret (k_drop <| k_ret () rfl rfl rfl rfl rfl)
                  · rw [if_pos hb41] at hp_
                    refine t_ift (o_t rfl) hb41 ?_
                    refine t_seq ?_
                    refine t_reg ?_
                    refine st (l_assign (o_b) (lt rfl)) ?_
                    refine r_nil (k_seq ?_)
                    cases hp_
                    exact t_ret (k_tr <| k_drop <| k_ret () rfl rfl rfl rfl rfl)
            · rw [if_pos hb20] at hp_
              refine g_t rfl rfl hb20 ?_
              refine st (l_fa (o_t rfl) fl_aIns_8 fa75_8 (lt rfl)) ?_
              refine g_t rfl rfl hb20 ?_
              refine st (l_ld (o_t rfl) ty73 (lt rfl)) ?_
              refine g_t rfl rfl hb20 ?_
              refine st (l_cmp (o_t rfl) (o_i) .neq (lt rfl)) ?_
              refine st (l_pickt (o_t rfl) hb20 (o_t rfl) (lt rfl)) ?_
              refine st (l_move (o_t rfl) (lt rfl)) ?_
              rcases bt (p1.By != (15 : Int)) with hb51 | hb51
              · rw [if_neg (nt hb51)] at hp_
                refine g_t rfl rfl hb51 ?_
                refine st (l_fa (o_t rfl) fl_aIns_4 fa75_4 (lt rfl)) ?_
                refine g_t rfl rfl hb51 ?_
                refine st (l_ld (o_t rfl) ty3 (lt rfl)) ?_
                refine g_t rfl rfl hb51 ?_
                refine st (l_cmp (o_t rfl) (o_i) .neq (lt rfl)) ?_
                refine g_t rfl rfl hb51 ?_
                refine st (l_move (o_t rfl) (lt rfl)) ?_
                rcases bt (p1.N != (0 : Int)) with hb52 | hb52
                · rw [if_neg (nt hb52)] at hp_
                  refine g_n ⟨67, vBool, p1.N != (0 : Int)⟩ rfl rfl (noy_b (b := true) hb52) (lt rfl) ?_
                  refine g_n ⟨67, vBool, p1.N != (0 : Int)⟩ rfl rfl (noy_b (b := true) hb52) (lt rfl) ?_
                  refine g_n ⟨67, vBool, p1.N != (0 : Int)⟩ rfl rfl (noy_b (b := true) hb52) (lt rfl) ?_
                  refine g_t rfl rfl hb51 ?_
                  refine st (l_pickf (o_t rfl) hb52 (o_b) (lt rfl)) ?_
                  refine g_t rfl rfl hb51 ?_
                  refine st (l_move (o_t rfl) (lt rfl)) ?_
                  refine g_n ⟨72, vBool, false⟩ rfl rfl (noy_b (b := true) rfl) (lt rfl) ?_
                  refine g_n ⟨72, vBool, false⟩ rfl rfl (noy_b (b := true) rfl) (lt rfl) ?_
                  refine g_n ⟨72, vBool, false⟩ rfl rfl (noy_b (b := true) rfl) (lt rfl) ?_
                  refine g_t rfl rfl hb51 ?_
                  refine st (l_pickf (o_t rfl) rfl (o_b) (lt rfl)) ?_
                  refine st (l_pickf (o_t rfl) hb51 (o_t rfl) (lt rfl)) ?_
                  refine r_nil (k_seq ?_)
                  refine t_iff (o_t rfl) rfl ?_
                  refine t_skip (k_seq ?_)
                  refine t_seq ?_
                  obtain ⟨t53, h54, hp_⟩ := bs hp_
                  obtain ⟨t55, h56, hp_⟩ := bs hp_
                  refine t_draw [(0, fun gs_ => some ⟨79, vPtr (kInt .u8), p1.By⟩), (0, fun gs_ => some ⟨80, vInt .u8, p1.By⟩), (0, fun gs_ => some ⟨81, vPtr k_aCode, p0.c⟩), (0, fun gs_ => some ⟨82, vPtr (kSlice (kInt .i64)), p0.c.Slots⟩), (0, fun gs_ => some ⟨83, vSlice (kInt .i64), p0.c.Slots⟩), (0, fun gs_ => some ⟨84, vPtr (kInt .i64), p1.A⟩), (0, fun gs_ => some ⟨85, vInt .i64, p1.A⟩), (0, fun gs_ => some ⟨86, vPtr (kInt .i64), t53⟩), (0, fun gs_ => some ⟨87, vInt .i64, t53⟩), (0, fun gs_ => some ⟨88, (k_aBits).v, (aBits.mk t53 0 0)⟩), (0, fun gs_ => some ⟨89, (k_aBits).v, s1_⟩), (0, fun gs_ => some ⟨90, vPtr (kInt .i64), p1.N⟩), (0, fun gs_ => some ⟨91, vInt .i64, p1.N⟩), (0, fun gs_ => some ⟨92, vPtr (kInt .i64), p1.M⟩), (0, fun gs_ => some ⟨93, vInt .i64, p1.M⟩), (0, fun gs_ => some ⟨94, vTup (vlCons ((k_aBits).v) (vlCons (vInt .i64) vlNil)), t55⟩), (0, fun gs_ => some ⟨78, vTup (vlCons ((k_aBits).v) (vlCons (vInt .i64) vlNil)), t55⟩), (0, fun gs_ => some ⟨95, (k_aBits).v, t55.1⟩), (0, fun gs_ => some ⟨96, vInt .i64, t55.2.1⟩), (1, fun gs_ => some ⟨8, vLoc, ((blk (gg gs_ 0)), 0)⟩), (2, fun gs_ => none), (2, fun gs_ => some ⟨9, vInt .i64, t55.2.1⟩)] mixed rfl rfl (fun gs_ => [rBox b9 72 k_aBits s1_] ++ ph gs_ [fun gs_ => [], fun gs_ => [rBox (blk (gg gs_ 0)) 72 k_aBits (aBits.mk 0 0 0)], fun gs_ => [rBox (blk (gg gs_ 0)) 72 k_aBits t55.1]]) [19, 20] rfl (.x (f := fun gs_ => ⟨79, vPtr (kInt .u8), p1.By⟩) 0 (fun gs_ => [⟨4, vPtr k_aIns, p1⟩]) rfl (fun gs_ => l_fa (o_t rfl) fl_aIns_8 fa75_8 (lt rfl)) (fun gs_ => .b rfl rfl (.nil)) .n (fun _ => rfl) rfl (fun _ _ _ => rfl) (.x (f := fun gs_ => ⟨80, vInt .u8, p1.By⟩) 0 (fun gs_ => [⟨79, vPtr (kInt .u8), p1.By⟩]) rfl (fun gs_ => l_ld (o_t rfl) ty73 (lt rfl)) (fun gs_ => .d 0 rfl rfl (.nil)) .n (fun _ => rfl) rfl (fun _ _ _ => rfl) (.x (f := fun gs_ => ⟨81, vPtr k_aCode, p0.c⟩) 0 (fun gs_ => [⟨3, vPtr k_code_look, p0⟩]) rfl (fun gs_ => l_fa (o_t rfl) fl_code_look_0 fa51_0 (lt rfl)) (fun gs_ => .b rfl rfl (.nil)) .n (fun _ => rfl) rfl (fun _ _ _ => rfl) (.x (f := fun gs_ => ⟨82, vPtr (kSlice (kInt .i64)), p0.c.Slots⟩) 0 (fun gs_ => [⟨81, vPtr k_aCode, p0.c⟩]) rfl (fun gs_ => l_fa (o_t rfl) fl_aCode_0 fa30_0 (lt rfl)) (fun gs_ => .d 2 rfl rfl (.nil)) .n (fun _ => rfl) rfl (fun _ _ _ => rfl) (.x (f := fun gs_ => ⟨83, vSlice (kInt .i64), p0.c.Slots⟩) 0 (fun gs_ => [⟨82, vPtr (kSlice (kInt .i64)), p0.c.Slots⟩]) rfl (fun gs_ => l_ld (o_t rfl) ty22 (lt rfl)) (fun gs_ => .d 3 rfl rfl (.nil)) .n (fun _ => rfl) rfl (fun _ _ _ => rfl) (.x (f := fun gs_ => ⟨84, vPtr (kInt .i64), p1.A⟩) 0 (fun gs_ => [⟨4, vPtr k_aIns, p1⟩]) rfl (fun gs_ => l_fa (o_t rfl) fl_aIns_2 fa75_2 (lt rfl)) (fun gs_ => .b rfl rfl (.nil)) .n (fun _ => rfl) rfl (fun _ _ _ => rfl) (.x (f := fun gs_ => ⟨85, vInt .i64, p1.A⟩) 0 (fun gs_ => [⟨84, vPtr (kInt .i64), p1.A⟩]) rfl (fun gs_ => l_ld (o_t rfl) ty3 (lt rfl)) (fun gs_ => .d 5 rfl rfl (.nil)) .n (fun _ => rfl) rfl (fun _ _ _ => rfl) (.x (f := fun gs_ => ⟨86, vPtr (kInt .i64), t53⟩) 0 (fun gs_ => [⟨83, vSlice (kInt .i64), p0.c.Slots⟩, ⟨85, vInt .i64, p1.A⟩]) rfl (fun gs_ => l_ia (o_t rfl) (o_t rfl) h54 sl22 sz3 (lt rfl)) (fun gs_ => .d 4 rfl rfl (.d 6 rfl rfl (.nil))) .n (fun _ => rfl) rfl (fun _ _ _ => rfl) (.x (f := fun gs_ => ⟨87, vInt .i64, t53⟩) 0 (fun gs_ => [⟨86, vPtr (kInt .i64), t53⟩]) rfl (fun gs_ => l_ld (o_t rfl) ty3 (lt rfl)) (fun gs_ => .d 7 rfl rfl (.nil)) .n (fun _ => rfl) rfl (fun _ _ _ => rfl) (.x (f := fun gs_ => ⟨88, (k_aBits).v, (aBits.mk t53 0 0)⟩) 0 (fun gs_ => [⟨87, vInt .i64, t53⟩]) rfl (fun gs_ => l_build zr72 (.cons (o_t rfl) fl_aBits_0 ft72_0 (.nil)) rfl stb72 (lt rfl)) (fun gs_ => .d 8 rfl rfl (.nil)) .n (fun _ => rfl) rfl (fun _ _ _ => rfl) (.x (f := fun gs_ => ⟨89, (k_aBits).v, s1_⟩) 0 (fun gs_ => [⟨7, vLoc, (b9, 0)⟩]) rfl (fun gs_ => l_ldm (i := 0) (o_t rfl) rfl (Fld.refl _) ty72 (lt rfl)) (fun gs_ => .b rfl rfl (.nil)) .n (fun _ => rfl) rfl (fun _ _ _ => rfl) (.x (f := fun gs_ => ⟨90, vPtr (kInt .i64), p1.N⟩) 0 (fun gs_ => [⟨4, vPtr k_aIns, p1⟩]) rfl (fun gs_ => l_fa (o_t rfl) fl_aIns_4 fa75_4 (lt rfl)) (fun gs_ => .b rfl rfl (.nil)) .n (fun _ => rfl) rfl (fun _ _ _ => rfl) (.x (f := fun gs_ => ⟨91, vInt .i64, p1.N⟩) 0 (fun gs_ => [⟨90, vPtr (kInt .i64), p1.N⟩]) rfl (fun gs_ => l_ld (o_t rfl) ty3 (lt rfl)) (fun gs_ => .d 11 rfl rfl (.nil)) .n (fun _ => rfl) rfl (fun _ _ _ => rfl) (.x (f := fun gs_ => ⟨92, vPtr (kInt .i64), p1.M⟩) 0 (fun gs_ => [⟨4, vPtr k_aIns, p1⟩]) rfl (fun gs_ => l_fa (o_t rfl) fl_aIns_5 fa75_5 (lt rfl)) (fun gs_ => .b rfl rfl (.nil)) .n (fun _ => rfl) rfl (fun _ _ _ => rfl) (.x (f := fun gs_ => ⟨93, vInt .i64, p1.M⟩) 0 (fun gs_ => [⟨92, vPtr (kInt .i64), p1.M⟩]) rfl (fun gs_ => l_ld (o_t rfl) ty3 (lt rfl)) (fun gs_ => .d 13 rfl rfl (.nil)) .n (fun _ => rfl) rfl (fun _ _ _ => rfl) (.x (f := fun gs_ => ⟨94, vTup (vlCons ((k_aBits).v) (vlCons (vInt .i64) vlNil)), t55⟩) 0 (fun gs_ => [⟨80, vInt .u8, p1.By⟩, ⟨88, (k_aBits).v, (aBits.mk t53 0 0)⟩, ⟨89, (k_aBits).v, s1_⟩, ⟨91, vInt .i64, p1.N⟩, ⟨93, vInt .i64, p1.M⟩]) rfl (fun gs_ => l_call (ok107 p1.By (aBits.mk t53 0 0) s1_ p1.N p1.M _ h56) (.cons (o_t rfl) (.cons (o_t rfl) (.cons (o_t rfl) (.cons (o_t rfl) (.cons (o_t rfl) (.nil)))))) (lt rfl)) (fun gs_ => .d 1 rfl rfl (.d 9 rfl rfl (.d 10 rfl rfl (.d 12 rfl rfl (.d 14 rfl rfl (.nil)))))) .n (fun _ => rfl) rfl (fun _ _ _ => rfl) (.x (f := fun gs_ => ⟨78, vTup (vlCons ((k_aBits).v) (vlCons (vInt .i64) vlNil)), t55⟩) 0 (fun gs_ => [⟨94, vTup (vlCons ((k_aBits).v) (vlCons (vInt .i64) vlNil)), t55⟩]) rfl (fun gs_ => l_move (o_t rfl) (lt rfl)) (fun gs_ => .d 15 rfl rfl (.nil)) .n (fun _ => rfl) rfl (fun _ _ _ => rfl) (.x (f := fun gs_ => ⟨95, (k_aBits).v, t55.1⟩) 0 (fun gs_ => [⟨78, vTup (vlCons ((k_aBits).v) (vlCons (vInt .i64) vlNil)), t55⟩]) rfl (fun gs_ => l_ext (x := t55) (L := (vlCons ((k_aBits).v) (vlCons (vInt .i64) vlNil))) (get := fun x => x.1) (o_t rfl) VGet.z (lt rfl)) (fun gs_ => .d 16 rfl rfl (.nil)) .n (fun _ => rfl) rfl (fun _ _ _ => rfl) (.x (f := fun gs_ => ⟨96, vInt .i64, t55.2.1⟩) 0 (fun gs_ => [⟨78, vTup (vlCons ((k_aBits).v) (vlCons (vInt .i64) vlNil)), t55⟩]) rfl (fun gs_ => l_ext (x := t55) (L := (vlCons ((k_aBits).v) (vlCons (vInt .i64) vlNil))) (get := fun x => x.2.1) (o_t rfl) (VGet.s VGet.z) (lt rfl)) (fun gs_ => .d 16 rfl rfl (.nil)) .n (fun _ => rfl) rfl (fun _ _ _ => rfl) (.e (f := fun gs_ => some ⟨8, vLoc, ((blk (gg gs_ 0)), 0)⟩) 0 (fun gs_ => []) rfl (fun gs_ hg_ => by obtain rfl := len0 hg_; show LocX _ _ _ [rBox b9 72 k_aBits s1_] _ (fun gh57_ => some ⟨8, vLoc, ((blk gh57_), 0)⟩) (fun gh57_ => [rBox b9 72 k_aBits s1_, rBox (blk gh57_) 72 k_aBits (aBits.mk 0 0 0)]); exact e_alloc zr72 (lt rfl)) (fun gs_ => .nil) .n (fun _ => rfl) rfl (by intro gs_ v_ h_; simp only [gg_app (show 0 < gs_.length by omega)]) (.e (f := fun gs_ => none) 1 (fun gs_ => [⟨8, vLoc, ((blk (gg gs_ 0)), 0)⟩, ⟨95, (k_aBits).v, t55.1⟩]) rfl (fun gs_ hg_ => by obtain ⟨gh57_, rfl⟩ := len1 hg_; show LocX _ _ _ [rBox b9 72 k_aBits s1_, rBox (blk gh57_) 72 k_aBits (aBits.mk 0 0 0)] _ (fun gh901_ => none) (fun gh901_ => [rBox b9 72 k_aBits s1_, rBox (blk gh57_) 72 k_aBits t55.1]); exact e_stm (i := 1) (o_t rfl) (o_t rfl) rfl (Fld.refl _) sz72) (fun gs_ => .d 19 rfl rfl (.d 17 rfl rfl (.nil))) .n (fun _ => rfl) rfl (fun _ _ _ => rfl) (.x (f := fun gs_ => ⟨9, vInt .i64, t55.2.1⟩) 2 (fun gs_ => [⟨96, vInt .i64, t55.2.1⟩]) rfl (fun gs_ => l_assign (o_t rfl) (lt rfl)) (fun gs_ => .d 18 rfl rfl (.nil)) .n (fun _ => rfl) rfl (fun _ _ _ => rfl) (.nil))))))))))))))))))))))) (fun gs_ hgs_ => ?_)
                  obtain ⟨gh57_, gh901_, rfl⟩ := len2 hgs_
                  show Kx _ _ [rBox b9 72 k_aBits s1_, rBox (blk gh57_) 72 k_aBits t55.1] _ _
                  refine k_frzb (s := 8) (i := 1) rfl rfl ?_
                  refine k_seq ?_
                  refine t_seq ?_
                  refine t_reg ?_
                  refine st (l_move (o_t rfl) (lt rfl)) ?_
                  refine st (l_cmp (o_t rfl) (o_i) .eql (lt rfl)) ?_
                  refine st (l_move (o_t rfl) (lt rfl)) ?_
                  rcases bt (t55.2.1 == (0 : Int)) with hb59 | hb59
                  · rw [if_neg (nt hb59)] at hp_
                    refine g_n ⟨99, vBool, t55.2.1 == (0 : Int)⟩ rfl rfl (noy_b (b := true) hb59) (lt rfl) ?_
                    refine g_n ⟨99, vBool, t55.2.1 == (0 : Int)⟩ rfl rfl (noy_b (b := true) hb59) (lt rfl) ?_
                    refine g_n ⟨99, vBool, t55.2.1 == (0 : Int)⟩ rfl rfl (noy_b (b := true) hb59) (lt rfl) ?_
                    refine g_n ⟨99, vBool, t55.2.1 == (0 : Int)⟩ rfl rfl (noy_b (b := true) hb59) (lt rfl) ?_
                    refine g_n ⟨99, vBool, t55.2.1 == (0 : Int)⟩ rfl rfl (noy_b (b := true) hb59) (lt rfl) ?_
                    refine g_n ⟨99, vBool, t55.2.1 == (0 : Int)⟩ rfl rfl (noy_b (b := true) hb59) (lt rfl) ?_
                    refine st (l_pickf (o_t rfl) hb59 (o_b) (lt rfl)) ?_
                    refine st (l_assign (o_t rfl) (lt rfl)) ?_
                    refine r_nil (k_seq ?_)
                    cases hp_
                    exact t_ret (k_drop <| k_ret () rfl rfl rfl rfl rfl)
                  · rw [if_pos hb59] at hp_
                    refine g_t rfl rfl hb59 ?_
                    refine st (l_ld (o_t rfl) ty51 (lt rfl)) ?_
                    refine g_t rfl rfl hb59 ?_
                    refine st (l_fa (o_t rfl) fl_aIns_1 fa75_1 (lt rfl)) ?_
                    refine g_t rfl rfl hb59 ?_
                    refine st (l_ld (o_t rfl) ty3 (lt rfl)) ?_
                    refine g_t rfl rfl hb59 ?_
                    refine st (l_fa (o_t rfl) fl_aBits_0 fa72_0 (lt rfl)) ?_
                    refine g_t rfl rfl hb59 ?_
                    refine st (l_ld (o_t rfl) ty3 (lt rfl)) ?_
                    refine g_t rfl rfl hb59 ?_
                    obtain ⟨t60, h61, hp_⟩ := bs hp_
                    refine st (l_call (ok45 p0 p1.To t55.1.W _ h61) (.cons (o_t rfl) (.cons (o_t rfl) (.cons (o_t rfl) (.nil)))) (lt rfl)) ?_
                    refine st (l_pickt (o_t rfl) hb59 (o_t rfl) (lt rfl)) ?_
                    refine st (l_assign (o_t rfl) (lt rfl)) ?_
                    refine r_nil (k_seq ?_)
                    cases hp_
                    exact t_ret (k_drop <| k_ret () rfl rfl rfl rfl rfl)
                · rw [if_pos hb52] at hp_
                  refine g_t rfl rfl hb52 ?_
                  refine st (l_fa (o_t rfl) fl_aIns_8 fa75_8 (lt rfl)) ?_
                  refine g_t rfl rfl hb52 ?_
                  refine st (l_ld (o_t rfl) ty73 (lt rfl)) ?_
                  refine g_t rfl rfl hb52 ?_
                  refine st (l_cmp (o_t rfl) (o_i) .neq (lt rfl)) ?_
                  refine g_t rfl rfl hb51 ?_
                  refine st (l_pickt (o_t rfl) hb52 (o_t rfl) (lt rfl)) ?_
                  refine g_t rfl rfl hb51 ?_
                  refine st (l_move (o_t rfl) (lt rfl)) ?_
                  refine g_n ⟨72, vBool, p1.By != (15 : Int)⟩ rfl rfl (noy_b (b := true) hb51) (lt rfl) ?_
                  refine g_n ⟨72, vBool, p1.By != (15 : Int)⟩ rfl rfl (noy_b (b := true) hb51) (lt rfl) ?_
                  refine g_n ⟨72, vBool, p1.By != (15 : Int)⟩ rfl rfl (noy_b (b := true) hb51) (lt rfl) ?_
                  refine g_t rfl rfl hb51 ?_
                  refine st (l_pickf (o_t rfl) hb51 (o_b) (lt rfl)) ?_
                  refine st (l_pickf (o_t rfl) hb51 (o_t rfl) (lt rfl)) ?_
                  refine r_nil (k_seq ?_)
                  refine t_iff (o_t rfl) rfl ?_
                  refine t_skip (k_seq ?_)
                  refine t_seq ?_
                  obtain ⟨t62, h63, hp_⟩ := bs hp_
                  obtain ⟨t64, h65, hp_⟩ := bs hp_
                  refine t_draw [(0, fun gs_ => some ⟨79, vPtr (kInt .u8), p1.By⟩), (0, fun gs_ => some ⟨80, vInt .u8, p1.By⟩), (0, fun gs_ => some ⟨81, vPtr k_aCode, p0.c⟩), (0, fun gs_ => some ⟨82, vPtr (kSlice (kInt .i64)), p0.c.Slots⟩), (0, fun gs_ => some ⟨83, vSlice (kInt .i64), p0.c.Slots⟩), (0, fun gs_ => some ⟨84, vPtr (kInt .i64), p1.A⟩), (0, fun gs_ => some ⟨85, vInt .i64, p1.A⟩), (0, fun gs_ => some ⟨86, vPtr (kInt .i64), t62⟩), (0, fun gs_ => some ⟨87, vInt .i64, t62⟩), (0, fun gs_ => some ⟨88, (k_aBits).v, (aBits.mk t62 0 0)⟩), (0, fun gs_ => some ⟨89, (k_aBits).v, s1_⟩), (0, fun gs_ => some ⟨90, vPtr (kInt .i64), p1.N⟩), (0, fun gs_ => some ⟨91, vInt .i64, p1.N⟩), (0, fun gs_ => some ⟨92, vPtr (kInt .i64), p1.M⟩), (0, fun gs_ => some ⟨93, vInt .i64, p1.M⟩), (0, fun gs_ => some ⟨94, vTup (vlCons ((k_aBits).v) (vlCons (vInt .i64) vlNil)), t64⟩), (0, fun gs_ => some ⟨78, vTup (vlCons ((k_aBits).v) (vlCons (vInt .i64) vlNil)), t64⟩), (0, fun gs_ => some ⟨95, (k_aBits).v, t64.1⟩), (0, fun gs_ => some ⟨96, vInt .i64, t64.2.1⟩), (1, fun gs_ => some ⟨8, vLoc, ((blk (gg gs_ 0)), 0)⟩), (2, fun gs_ => none), (2, fun gs_ => some ⟨9, vInt .i64, t64.2.1⟩)] mixed rfl rfl (fun gs_ => [rBox b9 72 k_aBits s1_] ++ ph gs_ [fun gs_ => [], fun gs_ => [rBox (blk (gg gs_ 0)) 72 k_aBits (aBits.mk 0 0 0)], fun gs_ => [rBox (blk (gg gs_ 0)) 72 k_aBits t64.1]]) [19, 20] rfl (.x (f := fun gs_ => ⟨79, vPtr (kInt .u8), p1.By⟩) 0 (fun gs_ => [⟨4, vPtr k_aIns, p1⟩]) rfl (fun gs_ => l_fa (o_t rfl) fl_aIns_8 fa75_8 (lt rfl)) (fun gs_ => .b rfl rfl (.nil)) .n (fun _ => rfl) rfl (fun _ _ _ => rfl) (.x (f := fun gs_ => ⟨80, vInt .u8, p1.By⟩) 0 (fun gs_ => [⟨79, vPtr (kInt .u8), p1.By⟩]) rfl (fun gs_ => l_ld (o_t rfl) ty73 (lt rfl)) (fun gs_ => .d 0 rfl rfl (.nil)) .n (fun _ => rfl) rfl (fun _ _ _ => rfl) (.x (f := fun gs_ => ⟨81, vPtr k_aCode, p0.c⟩) 0 (fun gs_ => [⟨3, vPtr k_code_look, p0⟩]) rfl (fun gs_ => l_fa (o_t rfl) fl_code_look_0 fa51_0 (lt rfl)) (fun gs_ => .b rfl rfl (.nil)) .n (fun _ => rfl) rfl (fun _ _ _ => rfl) (.x (f := fun gs_ => ⟨82, vPtr (kSlice (kInt .i64)), p0.c.Slots⟩) 0 (fun gs_ => [⟨81, vPtr k_aCode, p0.c⟩]) rfl (fun gs_ => l_fa (o_t rfl) fl_aCode_0 fa30_0 (lt rfl)) (fun gs_ => .d 2 rfl rfl (.nil)) .n (fun _ => rfl) rfl (fun _ _ _ => rfl) (.x (f := fun gs_ => ⟨83, vSlice (kInt .i64), p0.c.Slots⟩) 0 (fun gs_ => [⟨82, vPtr (kSlice (kInt .i64)), p0.c.Slots⟩]) rfl (fun gs_ => l_ld (o_t rfl) ty22 (lt rfl)) (fun gs_ => .d 3 rfl rfl (.nil)) .n (fun _ => rfl) rfl (fun _ _ _ => rfl) (.x (f := fun gs_ => ⟨84, vPtr (kInt .i64), p1.A⟩) 0 (fun gs_ => [⟨4, vPtr k_aIns, p1⟩]) rfl (fun gs_ => l_fa (o_t rfl) fl_aIns_2 fa75_2 (lt rfl)) (fun gs_ => .b rfl rfl (.nil)) .n (fun _ => rfl) rfl (fun _ _ _ => rfl) (.x (f := fun gs_ => ⟨85, vInt .i64, p1.A⟩) 0 (fun gs_ => [⟨84, vPtr (kInt .i64), p1.A⟩]) rfl (fun gs_ => l_ld (o_t rfl) ty3 (lt rfl)) (fun gs_ => .d 5 rfl rfl (.nil)) .n (fun _ => rfl) rfl (fun _ _ _ => rfl) (.x (f := fun gs_ => ⟨86, vPtr (kInt .i64), t62⟩) 0 (fun gs_ => [⟨83, vSlice (kInt .i64), p0.c.Slots⟩, ⟨85, vInt .i64, p1.A⟩]) rfl (fun gs_ => l_ia (o_t rfl) (o_t rfl) h63 sl22 sz3 (lt rfl)) (fun gs_ => .d 4 rfl rfl (.d 6 rfl rfl (.nil))) .n (fun _ => rfl) rfl (fun _ _ _ => rfl) (.x (f := fun gs_ => ⟨87, vInt .i64, t62⟩) 0 (fun gs_ => [⟨86, vPtr (kInt .i64), t62⟩]) rfl (fun gs_ => l_ld (o_t rfl) ty3 (lt rfl)) (fun gs_ => .d 7 rfl rfl (.nil)) .n (fun _ => rfl) rfl (fun _ _ _ => rfl) (.x (f := fun gs_ => ⟨88, (k_aBits).v, (aBits.mk t62 0 0)⟩) 0 (fun gs_ => [⟨87, vInt .i64, t62⟩]) rfl (fun gs_ => l_build zr72 (.cons (o_t rfl) fl_aBits_0 ft72_0 (.nil)) rfl stb72 (lt rfl)) (fun gs_ => .d 8 rfl rfl (.nil)) .n (fun _ => rfl) rfl (fun _ _ _ => rfl) (.x (f := fun gs_ => ⟨89, (k_aBits).v, s1_⟩) 0 (fun gs_ => [⟨7, vLoc, (b9, 0)⟩]) rfl (fun gs_ => l_ldm (i := 0) (o_t rfl) rfl (Fld.refl _) ty72 (lt rfl)) (fun gs_ => .b rfl rfl (.nil)) .n (fun _ => rfl) rfl (fun _ _ _ => rfl) (.x (f := fun gs_ => ⟨90, vPtr (kInt .i64), p1.N⟩) 0 (fun gs_ => [⟨4, vPtr k_aIns, p1⟩]) rfl (fun gs_ => l_fa (o_t rfl) fl_aIns_4 fa75_4 (lt rfl)) (fun gs_ => .b rfl rfl (.nil)) .n (fun _ => rfl) rfl (fun _ _ _ => rfl) (.x (f := fun gs_ => ⟨91, vInt .i64, p1.N⟩) 0 (fun gs_ => [⟨90, vPtr (kInt .i64), p1.N⟩]) rfl (fun gs_ => l_ld (o_t rfl) ty3 (lt rfl)) (fun gs_ => .d 11 rfl rfl (.nil)) .n (fun _ => rfl) rfl (fun _ _ _ => rfl) (.x (f := fun gs_ => ⟨92, vPtr (kInt .i64), p1.M⟩) 0 (fun gs_ => [⟨4, vPtr k_aIns, p1⟩]) rfl (fun gs_ => l_fa (o_t rfl) fl_aIns_5 fa75_5 (lt rfl)) (fun gs_ => .b rfl rfl (.nil)) .n (fun _ => rfl) rfl (fun _ _ _ => rfl) (.x (f := fun gs_ => ⟨93, vInt .i64, p1.M⟩) 0 (fun gs_ => [⟨92, vPtr (kInt .i64), p1.M⟩]) rfl (fun gs_ => l_ld (o_t rfl) ty3 (lt rfl)) (fun gs_ => .d 13 rfl rfl (.nil)) .n (fun _ => rfl) rfl (fun _ _ _ => rfl) (.x (f := fun gs_ => ⟨94, vTup (vlCons ((k_aBits).v) (vlCons (vInt .i64) vlNil)), t64⟩) 0 (fun gs_ => [⟨80, vInt .u8, p1.By⟩, ⟨88, (k_aBits).v, (aBits.mk t62 0 0)⟩, ⟨89, (k_aBits).v, s1_⟩, ⟨91, vInt .i64, p1.N⟩, ⟨93, vInt .i64, p1.M⟩]) rfl (fun gs_ => l_call (ok107 p1.By (aBits.mk t62 0 0) s1_ p1.N p1.M _ h65) (.cons (o_t rfl) (.cons (o_t rfl) (.cons (o_t rfl) (.cons (o_t rfl) (.cons (o_t rfl) (.nil)))))) (lt rfl)) (fun gs_ => .d 1 rfl rfl (.d 9 rfl rfl (.d 10 rfl rfl (.d 12 rfl rfl (.d 14 rfl rfl (.nil)))))) .n (fun _ => rfl) rfl (fun _ _ _ => rfl) (.x (f := fun gs_ => ⟨78, vTup (vlCons ((k_aBits).v) (vlCons (vInt .i64) vlNil)), t64⟩) 0 (fun gs_ => [⟨94, vTup (vlCons ((k_aBits).v) (vlCons (vInt .i64) vlNil)), t64⟩]) rfl (fun gs_ => l_move (o_t rfl) (lt rfl)) (fun gs_ => .d 15 rfl rfl (.nil)) .n (fun _ => rfl) rfl (fun _ _ _ => rfl) (.x (f := fun gs_ => ⟨95, (k_aBits).v, t64.1⟩) 0 (fun gs_ => [⟨78, vTup (vlCons ((k_aBits).v) (vlCons (vInt .i64) vlNil)), t64⟩]) rfl (fun gs_ => l_ext (x := t64) (L := (vlCons ((k_aBits).v) (vlCons (vInt .i64) vlNil))) (get := fun x => x.1) (o_t rfl) VGet.z (lt rfl)) (fun gs_ => .d 16 rfl rfl (.nil)) .n (fun _ => rfl) rfl (fun _ _ _ => rfl) (.x (f := fun gs_ => ⟨96, vInt .i64, t64.2.1⟩) 0 (fun gs_ => [⟨78, vTup (vlCons ((k_aBits).v) (vlCons (vInt .i64) vlNil)), t64⟩]) rfl (fun gs_ => l_ext (x := t64) (L := (vlCons ((k_aBits).v) (vlCons (vInt .i64) vlNil))) (get := fun x => x.2.1) (o_t rfl) (VGet.s VGet.z) (lt rfl)) (fun gs_ => .d 16 rfl rfl (.nil)) .n (fun _ => rfl) rfl (fun _ _ _ => rfl) (.e (f := fun gs_ => some ⟨8, vLoc, ((blk (gg gs_ 0)), 0)⟩) 0 (fun gs_ => []) rfl (fun gs_ hg_ => by obtain rfl := len0 hg_; show LocX _ _ _ [rBox b9 72 k_aBits s1_] _ (fun gh66_ => some ⟨8, vLoc, ((blk gh66_), 0)⟩) (fun gh66_ => [rBox b9 72 k_aBits s1_, rBox (blk gh66_) 72 k_aBits (aBits.mk 0 0 0)]); exact e_alloc zr72 (lt rfl)) (fun gs_ => .nil) .n (fun _ => rfl) rfl (by intro gs_ v_ h_; simp only [gg_app (show 0 < gs_.length by omega)]) (.e (f := fun gs_ => none) 1 (fun gs_ => [⟨8, vLoc, ((blk (gg gs_ 0)), 0)⟩, ⟨95, (k_aBits).v, t64.1⟩]) rfl (fun gs_ hg_ => by obtain ⟨gh66_, rfl⟩ := len1 hg_; show LocX _ _ _ [rBox b9 72 k_aBits s1_, rBox (blk gh66_) 72 k_aBits (aBits.mk 0 0 0)] _ (fun gh901_ => none) (fun gh901_ => [rBox b9 72 k_aBits s1_, rBox (blk gh66_) 72 k_aBits t64.1]); exact e_stm (i := 1) (o_t rfl) (o_t rfl) rfl (Fld.refl _) sz72) (fun gs_ => .d 19 rfl rfl (.d 17 rfl rfl (.nil))) .n (fun _ => rfl) rfl (fun _ _ _ => rfl) (.x (f := fun gs_ => ⟨9, vInt .i64, t64.2.1⟩) 2 (fun gs_ => [⟨96, vInt .i64, t64.2.1⟩]) rfl (fun gs_ => l_assign (o_t rfl) (lt rfl)) (fun gs_ => .d 18 rfl rfl (.nil)) .n (fun _ => rfl) rfl (fun _ _ _ => rfl) (.nil))))))))))))))))))))))) (fun gs_ hgs_ => ?_)
                  obtain ⟨gh66_, gh901_, rfl⟩ := len2 hgs_
                  show Kx _ _ [rBox b9 72 k_aBits s1_, rBox (blk gh66_) 72 k_aBits t64.1] _ _
                  refine k_frzb (s := 8) (i := 1) rfl rfl ?_
                  refine k_seq ?_
                  refine t_seq ?_
                  refine t_reg ?_
                  refine st (l_move (o_t rfl) (lt rfl)) ?_
                  refine st (l_cmp (o_t rfl) (o_i) .eql (lt rfl)) ?_
                  refine st (l_move (o_t rfl) (lt rfl)) ?_
                  rcases bt (t64.2.1 == (0 : Int)) with hb68 | hb68
                  · rw [if_neg (nt hb68)] at hp_
                    refine g_n ⟨99, vBool, t64.2.1 == (0 : Int)⟩ rfl rfl (noy_b (b := true) hb68) (lt rfl) ?_
                    refine g_n ⟨99, vBool, t64.2.1 == (0 : Int)⟩ rfl rfl (noy_b (b := true) hb68) (lt rfl) ?_
                    refine g_n ⟨99, vBool, t64.2.1 == (0 : Int)⟩ rfl rfl (noy_b (b := true) hb68) (lt rfl) ?_
                    refine g_n ⟨99, vBool, t64.2.1 == (0 : Int)⟩ rfl rfl (noy_b (b := true) hb68) (lt rfl) ?_
                    refine g_n ⟨99, vBool, t64.2.1 == (0 : Int)⟩ rfl rfl (noy_b (b := true) hb68) (lt rfl) ?_
                    refine g_n ⟨99, vBool, t64.2.1 == (0 : Int)⟩ rfl rfl (noy_b (b := true) hb68) (lt rfl) ?_
                    refine st (l_pickf (o_t rfl) hb68 (o_b) (lt rfl)) ?_
                    refine st (l_assign (o_t rfl) (lt rfl)) ?_
                    refine r_nil (k_seq ?_)
                    cases hp_
                    exact t_ret (k_drop <| k_ret () rfl rfl rfl rfl rfl)
                  · rw [if_pos hb68] at hp_
                    refine g_t rfl rfl hb68 ?_
                    refine st (l_ld (o_t rfl) ty51 (lt rfl)) ?_
                    refine g_t rfl rfl hb68 ?_
                    refine st (l_fa (o_t rfl) fl_aIns_1 fa75_1 (lt rfl)) ?_
                    refine g_t rfl rfl hb68 ?_
                    refine st (l_ld (o_t rfl) ty3 (lt rfl)) ?_
                    refine g_t rfl rfl hb68 ?_
                    refine st (l_fa (o_t rfl) fl_aBits_0 fa72_0 (lt rfl)) ?_
                    refine g_t rfl rfl hb68 ?_
                    refine st (l_ld (o_t rfl) ty3 (lt rfl)) ?_
                    refine g_t rfl rfl hb68 ?_
                    obtain ⟨t69, h70, hp_⟩ := bs hp_
                    refine st (l_call (ok45 p0 p1.To t64.1.W _ h70) (.cons (o_t rfl) (.cons (o_t rfl) (.cons (o_t rfl) (.nil)))) (lt rfl)) ?_
                    refine st (l_pickt (o_t rfl) hb68 (o_t rfl) (lt rfl)) ?_
                    refine st (l_assign (o_t rfl) (lt rfl)) ?_
                    refine r_nil (k_seq ?_)
                    cases hp_
                    exact t_ret (k_drop <| k_ret () rfl rfl rfl rfl rfl)
              · rw [if_pos hb51] at hp_
                refine g_n ⟨63, vBool, p1.By != (15 : Int)⟩ rfl rfl (noy_b (b := false) hb51) (lt rfl) ?_
                refine g_n ⟨63, vBool, p1.By != (15 : Int)⟩ rfl rfl (noy_b (b := false) hb51) (lt rfl) ?_
                refine g_n ⟨63, vBool, p1.By != (15 : Int)⟩ rfl rfl (noy_b (b := false) hb51) (lt rfl) ?_
                refine g_n ⟨63, vBool, p1.By != (15 : Int)⟩ rfl rfl (noy_b (b := false) hb51) (lt rfl) ?_
                refine g_n ⟨67, vUnd, ()⟩ rfl rfl (noy_u) (lt rfl) ?_
                refine g_n ⟨67, vUnd, ()⟩ rfl rfl (noy_u) (lt rfl) ?_
                refine g_n ⟨67, vUnd, ()⟩ rfl rfl (noy_u) (lt rfl) ?_
                refine g_n ⟨63, vBool, p1.By != (15 : Int)⟩ rfl rfl (noy_b (b := false) hb51) (lt rfl) ?_
                refine g_n ⟨63, vBool, p1.By != (15 : Int)⟩ rfl rfl (noy_b (b := false) hb51) (lt rfl) ?_
                refine g_n ⟨72, vUnd, ()⟩ rfl rfl (noy_u) (lt rfl) ?_
                refine g_n ⟨72, vUnd, ()⟩ rfl rfl (noy_u) (lt rfl) ?_
                refine g_n ⟨72, vUnd, ()⟩ rfl rfl (noy_u) (lt rfl) ?_
                refine g_n ⟨63, vBool, p1.By != (15 : Int)⟩ rfl rfl (noy_b (b := false) hb51) (lt rfl) ?_
                refine st (l_pickt (o_t rfl) hb51 (o_b) (lt rfl)) ?_
                refine r_nil (k_seq ?_)
                refine t_ift (o_t rfl) rfl ?_
                refine t_seq ?_
                refine t_reg ?_
                refine st (l_assign (o_b) (lt rfl)) ?_
                refine r_nil (k_seq ?_)
                cases hp_
                exact t_ret (k_tr <| k_drop <| k_ret () rfl rfl rfl rfl rfl)
        · rw [if_pos hb8] at hp_
          refine t_ift (o_t rfl) hb8 ?_
          refine t_seq ?_
          refine t_reg ?_
          refine st (l_assign (o_b) (lt rfl)) ?_
          refine r_nil (k_seq ?_)
          cases hp_
          exact t_ret (k_tr <| k_ret () rfl rfl rfl rfl rfl)
      · rw [if_pos hb7] at hp_
        refine g_n ⟨27, vBool, decide (p1.By < (5 : Int))⟩ rfl rfl (noy_b (b := false) hb7) (lt rfl) ?_
        refine g_n ⟨27, vBool, decide (p1.By < (5 : Int))⟩ rfl rfl (noy_b (b := false) hb7) (lt rfl) ?_
        refine g_n ⟨27, vBool, decide (p1.By < (5 : Int))⟩ rfl rfl (noy_b (b := false) hb7) (lt rfl) ?_
        refine st (l_pickt (o_t rfl) hb7 (o_b) (lt rfl)) ?_
        refine r_nil (k_seq ?_)
        refine t_ift (o_t rfl) rfl ?_
        refine t_seq ?_
        refine t_reg ?_
        refine st (l_assign (o_b) (lt rfl)) ?_
        refine r_nil (k_seq ?_)
        cases hp_
        exact t_ret (k_tr <| k_ret () rfl rfl rfl rfl rfl)
    · rw [if_pos hb6] at hp_
      refine g_n ⟨22, vBool, !t4⟩ rfl rfl (noy_b (b := false) hb6) (lt rfl) ?_
      refine g_n ⟨22, vBool, !t4⟩ rfl rfl (noy_b (b := false) hb6) (lt rfl) ?_
      refine g_n ⟨22, vBool, !t4⟩ rfl rfl (noy_b (b := false) hb6) (lt rfl) ?_
      refine st (l_pickt (o_t rfl) hb6 (o_b) (lt rfl)) ?_
      refine st (l_move (o_t rfl) (lt rfl)) ?_
      refine g_n ⟨27, vBool, true⟩ rfl rfl (noy_b (b := false) rfl) (lt rfl) ?_
      refine g_n ⟨27, vBool, true⟩ rfl rfl (noy_b (b := false) rfl) (lt rfl) ?_
      refine g_n ⟨27, vBool, true⟩ rfl rfl (noy_b (b := false) rfl) (lt rfl) ?_
      refine st (l_pickt (o_t rfl) rfl (o_b) (lt rfl)) ?_
      refine r_nil (k_seq ?_)
      refine t_ift (o_t rfl) rfl ?_
      refine t_seq ?_
      refine t_reg ?_
      refine st (l_assign (o_b) (lt rfl)) ?_
      refine r_nil (k_seq ?_)
      cases hp_
      exact t_ret (k_tr <| k_ret () rfl rfl rfl rfl rfl)
  · rw [if_pos hb3] at hp_
    refine g_n ⟨15, vBool, !t1⟩ rfl rfl (noy_b (b := false) hb3) (lt rfl) ?_
    refine g_n ⟨15, vBool, !t1⟩ rfl rfl (noy_b (b := false) hb3) (lt rfl) ?_
    refine g_n ⟨15, vBool, !t1⟩ rfl rfl (noy_b (b := false) hb3) (lt rfl) ?_
    refine g_n ⟨15, vBool, !t1⟩ rfl rfl (noy_b (b := false) hb3) (lt rfl) ?_
    refine g_n ⟨15, vBool, !t1⟩ rfl rfl (noy_b (b := false) hb3) (lt rfl) ?_
    refine st (l_pickt (o_t rfl) hb3 (o_b) (lt rfl)) ?_
    refine st (l_move (o_t rfl) (lt rfl)) ?_
    refine g_n ⟨22, vBool, true⟩ rfl rfl (noy_b (b := false) rfl) (lt rfl) ?_
    refine g_n ⟨22, vBool, true⟩ rfl rfl (noy_b (b := false) rfl) (lt rfl) ?_
    refine g_n ⟨22, vBool, true⟩ rfl rfl (noy_b (b := false) rfl) (lt rfl) ?_
    refine st (l_pickt (o_t rfl) rfl (o_b) (lt rfl)) ?_
    refine st (l_move (o_t rfl) (lt rfl)) ?_
    refine g_n ⟨27, vBool, true⟩ rfl rfl (noy_b (b := false) rfl) (lt rfl) ?_
    refine g_n ⟨27, vBool, true⟩ rfl rfl (noy_b (b := false) rfl) (lt rfl) ?_
    refine g_n ⟨27, vBool, true⟩ rfl rfl (noy_b (b := false) rfl) (lt rfl) ?_
    refine st (l_pickt (o_t rfl) rfl (o_b) (lt rfl)) ?_
    refine r_nil (k_seq ?_)
    refine t_ift (o_t rfl) rfl ?_
    refine t_seq ?_
    refine t_reg ?_
    refine st (l_assign (o_b) (lt rfl)) ?_
    refine r_nil (k_seq ?_)
    cases hp_
    exact t_ret (k_tr <| k_ret () rfl rfl rfl rfl rfl)
-- pointsman/sums.remainder$1
theorem ok146_0 (c : Int) (p1 : Int) (y_ : Int) (hp_ : sums_remainder_1 c p1 = some y_) : FP Tryz.prog 146 [⟨vInt .u32, c⟩, ⟨vPtr (kInt .u32), p1⟩] (vInt .u32) y_ := by
  unfold sums_remainder_1 at hp_
  refine fc_of 13 Tryz.func146 rfl fn146 rfl (Nat.le_of_ble_eq_true rfl) fun I_ w_ F_ => ?_
  refine t_seq ?_
  refine t_reg ?_
  refine st (l_assign (o_i) (lt rfl)) ?_
  refine r_nil (k_seq ?_)
  refine t_seq ?_
  refine t_seq ?_
  refine t_reg ?_
  refine st (l_move (o_t rfl) (lt rfl)) ?_
  refine st (l_bin (o_t rfl) (o_i) .and (lt rfl)) ?_
  refine st (l_cmp (o_t rfl) (o_i) .eql (lt rfl)) ?_
  refine r_nil (k_seq ?_)
  rcases bt ((iand .u32 c (1 : Int)) == (1 : Int)) with hb1 | hb1
  · rw [if_neg (nt hb1)] at hp_
    refine t_iff (o_t rfl) hb1 ?_
    refine t_skip (k_seq ?_)
    refine t_seq ?_
    refine t_reg ?_
    refine st (l_move (o_t rfl) (lt rfl)) ?_
    refine st (l_sh (o_t rfl) (o_i) (by decide) .shr (lt rfl)) ?_
    refine st (l_assign (o_t rfl) (lt rfl)) ?_
    refine r_nil (k_seq ?_)
    cases hp_
    exact t_ret (k_ret () rfl rfl rfl rfl rfl)
  · rw [if_pos hb1] at hp_
    refine t_ift (o_t rfl) hb1 ?_
    refine t_seq ?_
    refine t_reg ?_
    refine st (l_move (o_t rfl) (lt rfl)) ?_
    refine st (l_sh (o_t rfl) (o_i) (by decide) .shr (lt rfl)) ?_
    refine st (l_ld (o_t rfl) ty159 (lt rfl)) ?_
    refine st (l_bin (o_t rfl) (o_t rfl) .xor (lt rfl)) ?_
    refine st (l_assign (o_t rfl) (lt rfl)) ?_
    refine r_nil (k_seq ?_)
    cases hp_
    exact t_ret (k_tr <| k_ret () rfl rfl rfl rfl rfl)
-- pointsman/sums.rows
theorem ok108  (y_ : List (Int × sums_row)) (hp_ : sums_rows  = some y_) : FP Tryz.prog 108 [] ((kMap (kInt .i64) k_sums_row).v) y_ := by
  unfold sums_rows at hp_
  refine fc_of 7 Tryz.func108 rfl fn108 rfl (Nat.le_of_ble_eq_true rfl) fun I_ w_ F_ => ?_
  refine t_seq ?_
  refine t_reg ?_
  refine st (l_assign (o_nilm (K := kInt .i64) (V := k_sums_row)) (lt rfl)) ?_
  refine r_nil (k_seq ?_)
  refine t_seq ?_
  refine t_reg ?_
  refine r_mkmap (K := kInt .i64) (V := k_sums_row) (lt rfl) (fun o1 => ?_)
  refine st (l_build zr145 (.cons (o_s) fl_sums_row_0 ft145_0 (.cons (o_i) fl_sums_row_1 ft145_1 (.cons (o_cloN (o_fk) fn116) fl_sums_row_2 ft145_2 (.nil)))) rfl stb145 (lt rfl)) ?_
  refine r_mu (i := 0) (.inr rfl) mp146 (key_int (by kernel_rfl)) (o_t rfl) (o_i) (o_t rfl) rfl ?_
  refine st (l_build zr145 (.cons (o_s) fl_sums_row_0 ft145_0 (.cons (o_i) fl_sums_row_1 ft145_1 (.cons (o_cloN (o_fk) fn118) fl_sums_row_2 ft145_2 (.nil)))) rfl stb145 (lt rfl)) ?_
  refine r_mu (i := 0) (.inr rfl) mp146 (key_int (by kernel_rfl)) (o_t rfl) (o_i) (o_t rfl) rfl ?_
  refine st (l_build zr145 (.cons (o_s) fl_sums_row_0 ft145_0 (.cons (o_i) fl_sums_row_1 ft145_1 (.cons (o_cloN (o_fk) fn119) fl_sums_row_2 ft145_2 (.nil)))) rfl stb145 (lt rfl)) ?_
  refine r_mu (i := 0) (.inr rfl) mp146 (key_int (by kernel_rfl)) (o_t rfl) (o_i) (o_t rfl) rfl ?_
  refine st (l_build zr145 (.cons (o_s) fl_sums_row_0 ft145_0 (.cons (o_i) fl_sums_row_1 ft145_1 (.cons (o_cloN (o_fk) fn122) fl_sums_row_2 ft145_2 (.nil)))) rfl stb145 (lt rfl)) ?_
  refine r_mu (i := 0) (.inr rfl) mp146 (key_int (by kernel_rfl)) (o_t rfl) (o_i) (o_t rfl) rfl ?_
  refine st (l_move (o_t rfl) (lt rfl)) ?_
  refine st (l_assign (o_t rfl) (lt rfl)) ?_
  refine r_nil (k_seq ?_)
  cases hp_
  exact t_ret (k_frzm (s := 0) (i := 0) rfl rfl <| k_drop <| k_ret () rfl rfl rfl rfl rfl)
-- pointsman/sums.Width
theorem ok85 (n : Int) (y_ : Int) (hp_ : sums_Width n = some y_) : FP Tryz.prog 85 [⟨vInt .i64, n⟩] (vInt .i64) y_ := by
  unfold sums_Width at hp_
  refine fc_of 7 Tryz.func85 rfl fn85 rfl (Nat.le_of_ble_eq_true rfl) fun I_ w_ F_ => ?_
  refine t_seq ?_
  refine t_reg ?_
  refine st (l_assign (o_i) (lt rfl)) ?_
  refine r_nil (k_seq ?_)
  refine t_seq ?_
  refine t_reg ?_
  obtain ⟨t1, h2, hp_⟩ := bs hp_
  refine st (l_call (ok108  _ h2) (.nil) (lt rfl)) ?_
  refine st (l_move (o_t rfl) (lt rfl)) ?_
  refine st (l_lki mp146 (key_int (by kernel_rfl)) zr145 (o_t rfl) (o_t rfl) (lt rfl)) ?_
  refine st (l_fld (o_t rfl) fl_sums_row_1 rfl ft145_1 (lt rfl)) ?_
  refine st (l_assign (o_t rfl) (lt rfl)) ?_
  refine r_nil (k_seq ?_)
  cases hp_
  exact t_ret (k_ret () rfl rfl rfl rfl rfl)
-- pointsman/code.rows$3
theorem ok84 (l : code_look) (x : aIns) (p2 : code_place) (y_ : Bool) (hp_ : code_rows_3 l x p2 = some y_) : FP Tryz.prog 84 [⟨(k_code_look).v, l⟩, ⟨(k_aIns).v, x⟩, ⟨(k_code_place).v, p2⟩] vBool y_ := by
  unfold code_rows_3 at hp_
  refine fc_of 38 Tryz.func84 rfl fn84 rfl (Nat.le_of_ble_eq_true rfl) fun I_ w_ F_ => ?_
  refine t_seq ?_
  refine t_reg ?_
  refine st (l_box (o_t rfl) (lt rfl)) ?_
  refine st (l_box (o_t rfl) (lt rfl)) ?_
  refine st (l_box (o_t rfl) (lt rfl)) ?_
  refine st (l_assign (o_b) (lt rfl)) ?_
  refine r_nil (k_seq ?_)
  refine t_seq ?_
  refine t_reg ?_
  refine st (l_fa (o_t rfl) fl_aIns_4 fa75_4 (lt rfl)) ?_
  refine st (l_ld (o_t rfl) ty3 (lt rfl)) ?_
  obtain ⟨t1, h2, hp_⟩ := bs hp_
  refine st (l_call (ok85 x.N _ h2) (.cons (o_t rfl) (.nil)) (lt rfl)) ?_
  refine st (l_assign (o_t rfl) (lt rfl)) ?_
  refine r_nil (k_seq ?_)
  refine t_seq ?_
  refine t_reg ?_
  refine st (l_move (o_t rfl) (lt rfl)) ?_
  refine st (l_cmp (o_t rfl) (o_i) .gtr (lt rfl)) ?_
  refine st (l_move (o_t rfl) (lt rfl)) ?_
  rcases bt (decide (t1 > (0 : Int))) with hb3 | hb3
  · rw [if_neg (nt hb3)] at hp_
    refine g_n ⟨13, vBool, decide (t1 > (0 : Int))⟩ rfl rfl (noy_b (b := true) hb3) (lt rfl) ?_
    refine g_n ⟨13, vBool, decide (t1 > (0 : Int))⟩ rfl rfl (noy_b (b := true) hb3) (lt rfl) ?_
    refine g_n ⟨13, vBool, decide (t1 > (0 : Int))⟩ rfl rfl (noy_b (b := true) hb3) (lt rfl) ?_
    refine g_n ⟨13, vBool, decide (t1 > (0 : Int))⟩ rfl rfl (noy_b (b := true) hb3) (lt rfl) ?_
    refine g_n ⟨13, vBool, decide (t1 > (0 : Int))⟩ rfl rfl (noy_b (b := true) hb3) (lt rfl) ?_
    refine st (l_pickf (o_t rfl) hb3 (o_b) (lt rfl)) ?_
    refine st (l_move (o_t rfl) (lt rfl)) ?_
    refine g_n ⟨20, vBool, false⟩ rfl rfl (noy_b (b := true) rfl) (lt rfl) ?_
    refine g_n ⟨20, vBool, false⟩ rfl rfl (noy_b (b := true) rfl) (lt rfl) ?_
    refine g_n ⟨20, vBool, false⟩ rfl rfl (noy_b (b := true) rfl) (lt rfl) ?_
    refine g_n ⟨20, vBool, false⟩ rfl rfl (noy_b (b := true) rfl) (lt rfl) ?_
    refine st (l_pickf (o_t rfl) rfl (o_b) (lt rfl)) ?_
    refine st (l_move (o_t rfl) (lt rfl)) ?_
    refine g_n ⟨26, vBool, false⟩ rfl rfl (noy_b (b := true) rfl) (lt rfl) ?_
    refine g_n ⟨26, vBool, false⟩ rfl rfl (noy_b (b := true) rfl) (lt rfl) ?_
    refine g_n ⟨26, vBool, false⟩ rfl rfl (noy_b (b := true) rfl) (lt rfl) ?_
    refine g_n ⟨26, vBool, false⟩ rfl rfl (noy_b (b := true) rfl) (lt rfl) ?_
    refine st (l_pickf (o_t rfl) rfl (o_b) (lt rfl)) ?_
    refine st (l_move (o_t rfl) (lt rfl)) ?_
    refine g_n ⟨32, vBool, false⟩ rfl rfl (noy_b (b := true) rfl) (lt rfl) ?_
    refine g_n ⟨32, vBool, false⟩ rfl rfl (noy_b (b := true) rfl) (lt rfl) ?_
    refine g_n ⟨32, vBool, false⟩ rfl rfl (noy_b (b := true) rfl) (lt rfl) ?_
    refine g_n ⟨32, vBool, false⟩ rfl rfl (noy_b (b := true) rfl) (lt rfl) ?_
    refine st (l_pickf (o_t rfl) rfl (o_b) (lt rfl)) ?_
    refine st (l_assign (o_t rfl) (lt rfl)) ?_
    refine r_nil (k_seq ?_)
    cases hp_
    exact t_ret (k_ret () rfl rfl rfl rfl rfl)
  · rw [if_pos hb3] at hp_
    refine g_t rfl rfl hb3 ?_
    refine st (l_ld (o_t rfl) ty51 (lt rfl)) ?_
    refine g_t rfl rfl hb3 ?_
    refine st (l_fa (o_t rfl) fl_aIns_1 fa75_1 (lt rfl)) ?_
    refine g_t rfl rfl hb3 ?_
    refine st (l_ld (o_t rfl) ty3 (lt rfl)) ?_
    refine g_t rfl rfl hb3 ?_
    refine st (l_move (o_t rfl) (lt rfl)) ?_
    refine g_t rfl rfl hb3 ?_
    obtain ⟨t4, h5, hp_⟩ := bs hp_
    refine st (l_call (ok45 l x.To t1 _ h5) (.cons (o_t rfl) (.cons (o_t rfl) (.cons (o_t rfl) (.nil)))) (lt rfl)) ?_
    refine st (l_pickt (o_t rfl) hb3 (o_t rfl) (lt rfl)) ?_
    refine st (l_move (o_t rfl) (lt rfl)) ?_
    rcases bt (t4) with hb6 | hb6
    · rw [if_neg (nt hb6)] at hp_
      refine g_n ⟨20, vBool, t4⟩ rfl rfl (noy_b (b := true) hb6) (lt rfl) ?_
      refine g_n ⟨20, vBool, t4⟩ rfl rfl (noy_b (b := true) hb6) (lt rfl) ?_
      refine g_n ⟨20, vBool, t4⟩ rfl rfl (noy_b (b := true) hb6) (lt rfl) ?_
      refine g_n ⟨20, vBool, t4⟩ rfl rfl (noy_b (b := true) hb6) (lt rfl) ?_
      refine st (l_pickf (o_t rfl) hb6 (o_b) (lt rfl)) ?_
      refine st (l_move (o_t rfl) (lt rfl)) ?_
      refine g_n ⟨26, vBool, false⟩ rfl rfl (noy_b (b := true) rfl) (lt rfl) ?_
      refine g_n ⟨26, vBool, false⟩ rfl rfl (noy_b (b := true) rfl) (lt rfl) ?_
      refine g_n ⟨26, vBool, false⟩ rfl rfl (noy_b (b := true) rfl) (lt rfl) ?_
      refine g_n ⟨26, vBool, false⟩ rfl rfl (noy_b (b := true) rfl) (lt rfl) ?_
      refine st (l_pickf (o_t rfl) rfl (o_b) (lt rfl)) ?_
      refine st (l_move (o_t rfl) (lt rfl)) ?_
      refine g_n ⟨32, vBool, false⟩ rfl rfl (noy_b (b := true) rfl) (lt rfl) ?_
      refine g_n ⟨32, vBool, false⟩ rfl rfl (noy_b (b := true) rfl) (lt rfl) ?_
      refine g_n ⟨32, vBool, false⟩ rfl rfl (noy_b (b := true) rfl) (lt rfl) ?_
      refine g_n ⟨32, vBool, false⟩ rfl rfl (noy_b (b := true) rfl) (lt rfl) ?_
      refine st (l_pickf (o_t rfl) rfl (o_b) (lt rfl)) ?_
      refine st (l_assign (o_t rfl) (lt rfl)) ?_
      refine r_nil (k_seq ?_)
      cases hp_
      exact t_ret (k_ret () rfl rfl rfl rfl rfl)
    · rw [if_pos hb6] at hp_
      refine g_t rfl rfl hb6 ?_
      refine st (l_fa (o_t rfl) fl_aIns_6 fa75_6 (lt rfl)) ?_
      refine g_t rfl rfl hb6 ?_
      refine st (l_ld (o_t rfl) ty22 (lt rfl)) ?_
      refine g_t rfl rfl hb6 ?_
      refine st (l_lens (o_t rfl) sl22 (lt rfl)) ?_
      refine g_t rfl rfl hb6 ?_
      refine st (l_cmp (o_t rfl) (o_i) .geq (lt rfl)) ?_
      refine st (l_pickt (o_t rfl) hb6 (o_t rfl) (lt rfl)) ?_
      refine st (l_move (o_t rfl) (lt rfl)) ?_
      rcases bt (decide ((x.L.length : Int) ≥ (1 : Int))) with hb7 | hb7
      · rw [if_neg (nt hb7)] at hp_
        refine g_n ⟨26, vBool, decide ((x.L.length : Int) ≥ (1 : Int))⟩ rfl rfl (noy_b (b := true) hb7) (lt rfl) ?_
        refine g_n ⟨26, vBool, decide ((x.L.length : Int) ≥ (1 : Int))⟩ rfl rfl (noy_b (b := true) hb7) (lt rfl) ?_
        refine g_n ⟨26, vBool, decide ((x.L.length : Int) ≥ (1 : Int))⟩ rfl rfl (noy_b (b := true) hb7) (lt rfl) ?_
        refine g_n ⟨26, vBool, decide ((x.L.length : Int) ≥ (1 : Int))⟩ rfl rfl (noy_b (b := true) hb7) (lt rfl) ?_
        refine st (l_pickf (o_t rfl) hb7 (o_b) (lt rfl)) ?_
        refine st (l_move (o_t rfl) (lt rfl)) ?_
        refine g_n ⟨32, vBool, false⟩ rfl rfl (noy_b (b := true) rfl) (lt rfl) ?_
        refine g_n ⟨32, vBool, false⟩ rfl rfl (noy_b (b := true) rfl) (lt rfl) ?_
        refine g_n ⟨32, vBool, false⟩ rfl rfl (noy_b (b := true) rfl) (lt rfl) ?_
        refine g_n ⟨32, vBool, false⟩ rfl rfl (noy_b (b := true) rfl) (lt rfl) ?_
        refine st (l_pickf (o_t rfl) rfl (o_b) (lt rfl)) ?_
        refine st (l_assign (o_t rfl) (lt rfl)) ?_
        refine r_nil (k_seq ?_)
        cases hp_
        exact t_ret (k_ret () rfl rfl rfl rfl rfl)
      · rw [if_pos hb7] at hp_
        refine g_t rfl rfl hb7 ?_
        refine st (l_fa (o_t rfl) fl_aIns_6 fa75_6 (lt rfl)) ?_
        refine g_t rfl rfl hb7 ?_
        refine st (l_ld (o_t rfl) ty22 (lt rfl)) ?_
        refine g_t rfl rfl hb7 ?_
        refine st (l_lens (o_t rfl) sl22 (lt rfl)) ?_
        refine g_t rfl rfl hb7 ?_
        refine st (l_cmp (o_t rfl) (o_i) .leq (lt rfl)) ?_
        refine st (l_pickt (o_t rfl) hb7 (o_t rfl) (lt rfl)) ?_
        refine st (l_move (o_t rfl) (lt rfl)) ?_
        rcases bt (decide ((x.L.length : Int) ≤ (64 : Int))) with hb8 | hb8
        · rw [if_neg (nt hb8)] at hp_
          refine g_n ⟨32, vBool, decide ((x.L.length : Int) ≤ (64 : Int))⟩ rfl rfl (noy_b (b := true) hb8) (lt rfl) ?_
          refine g_n ⟨32, vBool, decide ((x.L.length : Int) ≤ (64 : Int))⟩ rfl rfl (noy_b (b := true) hb8) (lt rfl) ?_
          refine g_n ⟨32, vBool, decide ((x.L.length : Int) ≤ (64 : Int))⟩ rfl rfl (noy_b (b := true) hb8) (lt rfl) ?_
          refine g_n ⟨32, vBool, decide ((x.L.length : Int) ≤ (64 : Int))⟩ rfl rfl (noy_b (b := true) hb8) (lt rfl) ?_
          refine st (l_pickf (o_t rfl) hb8 (o_b) (lt rfl)) ?_
          refine st (l_assign (o_t rfl) (lt rfl)) ?_
          refine r_nil (k_seq ?_)
          cases hp_
          exact t_ret (k_ret () rfl rfl rfl rfl rfl)
        · rw [if_pos hb8] at hp_
          refine g_t rfl rfl hb8 ?_
          refine st (l_ld (o_t rfl) ty51 (lt rfl)) ?_
          refine g_t rfl rfl hb8 ?_
          refine st (l_fa (o_t rfl) fl_aIns_6 fa75_6 (lt rfl)) ?_
          refine g_t rfl rfl hb8 ?_
          refine st (l_ld (o_t rfl) ty22 (lt rfl)) ?_
          refine g_t rfl rfl hb8 ?_
          obtain ⟨t9, h10, hp_⟩ := bs hp_
          refine st (l_call (ok59 l x.L _ h10) (.cons (o_t rfl) (.cons (o_t rfl) (.nil))) (lt rfl)) ?_
          refine st (l_pickt (o_t rfl) hb8 (o_t rfl) (lt rfl)) ?_
          refine st (l_assign (o_t rfl) (lt rfl)) ?_
          refine r_nil (k_seq ?_)
          cases hp_
          exact t_ret (k_ret () rfl rfl rfl rfl rfl)
-- pointsman/code.rows$4
theorem ok86 (l : code_look) (x : aIns) (p2 : code_place) (y_ : Bool) (hp_ : code_rows_4 l x p2 = some y_) : FP Tryz.prog 86 [⟨(k_code_look).v, l⟩, ⟨(k_aIns).v, x⟩, ⟨(k_code_place).v, p2⟩] vBool y_ := by
  unfold code_rows_4 at hp_
  refine fc_of 17 Tryz.func86 rfl fn86 rfl (Nat.le_of_ble_eq_true rfl) fun I_ w_ F_ => ?_
  refine t_seq ?_
  refine t_reg ?_
  refine st (l_box (o_t rfl) (lt rfl)) ?_
  refine st (l_box (o_t rfl) (lt rfl)) ?_
  refine st (l_box (o_t rfl) (lt rfl)) ?_
  refine st (l_assign (o_b) (lt rfl)) ?_
  refine r_nil (k_seq ?_)
  refine t_seq ?_
  refine t_reg ?_
  refine st (l_ld (o_t rfl) ty51 (lt rfl)) ?_
  refine st (l_fa (o_t rfl) fl_aIns_1 fa75_1 (lt rfl)) ?_
  refine st (l_ld (o_t rfl) ty3 (lt rfl)) ?_
  obtain ⟨t1, h2, hp_⟩ := bs hp_
  refine st (l_call (ok45 l x.To (1 : Int) _ h2) (.cons (o_t rfl) (.cons (o_t rfl) (.cons (o_i) (.nil)))) (lt rfl)) ?_
  refine st (l_move (o_t rfl) (lt rfl)) ?_
  rcases bt (t1) with hb3 | hb3
  · rw [if_neg (nt hb3)] at hp_
    refine g_n ⟨11, vBool, t1⟩ rfl rfl (noy_b (b := true) hb3) (lt rfl) ?_
    refine g_n ⟨11, vBool, t1⟩ rfl rfl (noy_b (b := true) hb3) (lt rfl) ?_
    refine g_n ⟨11, vBool, t1⟩ rfl rfl (noy_b (b := true) hb3) (lt rfl) ?_
    refine g_n ⟨11, vBool, t1⟩ rfl rfl (noy_b (b := true) hb3) (lt rfl) ?_
    refine st (l_pickf (o_t rfl) hb3 (o_b) (lt rfl)) ?_
    refine st (l_assign (o_t rfl) (lt rfl)) ?_
    refine r_nil (k_seq ?_)
    cases hp_
    exact t_ret (k_ret () rfl rfl rfl rfl rfl)
  · rw [if_pos hb3] at hp_
    refine g_t rfl rfl hb3 ?_
    refine st (l_ld (o_t rfl) ty51 (lt rfl)) ?_
    refine g_t rfl rfl hb3 ?_
    refine st (l_fa (o_t rfl) fl_aIns_4 fa75_4 (lt rfl)) ?_
    refine g_t rfl rfl hb3 ?_
    refine st (l_ld (o_t rfl) ty3 (lt rfl)) ?_
    refine g_t rfl rfl hb3 ?_
    obtain ⟨t4, h5, hp_⟩ := bs hp_
    refine st (l_call (ok53 l x.N _ h5) (.cons (o_t rfl) (.cons (o_t rfl) (.nil))) (lt rfl)) ?_
    refine st (l_pickt (o_t rfl) hb3 (o_t rfl) (lt rfl)) ?_
    refine st (l_assign (o_t rfl) (lt rfl)) ?_
    refine r_nil (k_seq ?_)
    cases hp_
    exact t_ret (k_ret () rfl rfl rfl rfl rfl)
-- pointsman/code.rows$5
theorem ok87 (l : code_look) (x : aIns) (p2 : code_place) (y_ : Bool) (hp_ : code_rows_5 l x p2 = some y_) : FP Tryz.prog 87 [⟨(k_code_look).v, l⟩, ⟨(k_aIns).v, x⟩, ⟨(k_code_place).v, p2⟩] vBool y_ := by
  unfold code_rows_5 at hp_
  refine fc_of 11 Tryz.func87 rfl fn87 rfl (Nat.le_of_ble_eq_true rfl) fun I_ w_ F_ => ?_
  refine t_seq ?_
  refine t_reg ?_
  refine st (l_box (o_t rfl) (lt rfl)) ?_
  refine st (l_box (o_t rfl) (lt rfl)) ?_
  refine st (l_box (o_t rfl) (lt rfl)) ?_
  refine st (l_assign (o_b) (lt rfl)) ?_
  refine r_nil (k_seq ?_)
  refine t_seq ?_
  refine t_reg ?_
  refine st (l_ld (o_t rfl) ty51 (lt rfl)) ?_
  refine st (l_fa (o_t rfl) fl_aIns_4 fa75_4 (lt rfl)) ?_
  refine st (l_ld (o_t rfl) ty3 (lt rfl)) ?_
  obtain ⟨t1, h2, hp_⟩ := bs hp_
  refine st (l_call (ok53 l x.N _ h2) (.cons (o_t rfl) (.cons (o_t rfl) (.nil))) (lt rfl)) ?_
  refine st (l_assign (o_t rfl) (lt rfl)) ?_
  refine r_nil (k_seq ?_)
  cases hp_
  exact t_ret (k_ret () rfl rfl rfl rfl rfl)
-- pointsman/code.rows$6
theorem ok88 (l : code_look) (x : aIns) (p2 : code_place) (y_ : Bool) (hp_ : code_rows_6 l x p2 = some y_) : FP Tryz.prog 88 [⟨(k_code_look).v, l⟩, ⟨(k_aIns).v, x⟩, ⟨(k_code_place).v, p2⟩] vBool y_ := by
  unfold code_rows_6 at hp_
  refine fc_of 11 Tryz.func88 rfl fn88 rfl (Nat.le_of_ble_eq_true rfl) fun I_ w_ F_ => ?_
  refine t_seq ?_
  refine t_reg ?_
  refine st (l_box (o_t rfl) (lt rfl)) ?_
  refine st (l_box (o_t rfl) (lt rfl)) ?_
  refine st (l_box (o_t rfl) (lt rfl)) ?_
  refine st (l_assign (o_b) (lt rfl)) ?_
  refine r_nil (k_seq ?_)
  refine t_seq ?_
  refine t_reg ?_
  refine st (l_ld (o_t rfl) ty51 (lt rfl)) ?_
  refine st (l_fa (o_t rfl) fl_aIns_4 fa75_4 (lt rfl)) ?_
  refine st (l_ld (o_t rfl) ty3 (lt rfl)) ?_
  obtain ⟨t1, h2, hp_⟩ := bs hp_
  refine st (l_call (ok53 l x.N _ h2) (.cons (o_t rfl) (.cons (o_t rfl) (.nil))) (lt rfl)) ?_
  refine st (l_assign (o_t rfl) (lt rfl)) ?_
  refine r_nil (k_seq ?_)
  cases hp_
  exact t_ret (k_ret () rfl rfl rfl rfl rfl)
-- (pointsman/code.look).array
theorem ok90 (l : code_look) (n : Int) (k_2 : Int) (y_ : Bool) (hp_ : code_look_array l n k_2 = some y_) : FP Tryz.prog 90 [⟨(k_code_look).v, l⟩, ⟨vInt .i64, n⟩, ⟨vInt .u8, k_2⟩] vBool y_ := by
  unfold code_look_array at hp_
  refine fc_of 24 Tryz.func90 rfl fn90 rfl (Nat.le_of_ble_eq_true rfl) fun I_ w_ F_ => ?_
  refine t_seq ?_
  refine t_reg ?_
  refine st (l_box (o_t rfl) (lt rfl)) ?_
  refine st (l_assign (o_b) (lt rfl)) ?_
  refine r_nil (k_seq ?_)
  refine t_seq ?_
  refine t_reg ?_
  refine st (l_move (o_t rfl) (lt rfl)) ?_
  refine st (l_fa (o_t rfl) fl_code_look_0 fa51_0 (lt rfl)) ?_
  refine st (l_fa (o_t rfl) fl_aCode_8 fa30_8 (lt rfl)) ?_
  refine st (l_ld (o_t rfl) ty28 (lt rfl)) ?_
  refine st (l_lens (o_t rfl) sl28 (lt rfl)) ?_
  obtain ⟨t1, h2, hp_⟩ := bs hp_
  refine st (l_call (ok47 n (l.c.Arrays.length : Int) _ h2) (.cons (o_t rfl) (.cons (o_t rfl) (.nil))) (lt rfl)) ?_
  refine st (l_move (o_t rfl) (lt rfl)) ?_
  rcases bt (t1) with hb3 | hb3
  · rw [if_neg (nt hb3)] at hp_
    refine g_n ⟨13, vBool, t1⟩ rfl rfl (noy_b (b := true) hb3) (lt rfl) ?_
    refine g_n ⟨13, vBool, t1⟩ rfl rfl (noy_b (b := true) hb3) (lt rfl) ?_
    refine g_n ⟨13, vBool, t1⟩ rfl rfl (noy_b (b := true) hb3) (lt rfl) ?_
    refine g_n ⟨13, vBool, t1⟩ rfl rfl (noy_b (b := true) hb3) (lt rfl) ?_
    refine g_n ⟨13, vBool, t1⟩ rfl rfl (noy_b (b := true) hb3) (lt rfl) ?_
    refine g_n ⟨13, vBool, t1⟩ rfl rfl (noy_b (b := true) hb3) (lt rfl) ?_
    refine g_n ⟨13, vBool, t1⟩ rfl rfl (noy_b (b := true) hb3) (lt rfl) ?_
    refine g_n ⟨13, vBool, t1⟩ rfl rfl (noy_b (b := true) hb3) (lt rfl) ?_
    refine g_n ⟨13, vBool, t1⟩ rfl rfl (noy_b (b := true) hb3) (lt rfl) ?_
    refine st (l_pickf (o_t rfl) hb3 (o_b) (lt rfl)) ?_
    refine st (l_assign (o_t rfl) (lt rfl)) ?_
    refine r_nil (k_seq ?_)
    cases hp_
    exact t_ret (k_ret () rfl rfl rfl rfl rfl)
  · rw [if_pos hb3] at hp_
    refine g_t rfl rfl hb3 ?_
    refine st (l_fa (o_t rfl) fl_code_look_0 fa51_0 (lt rfl)) ?_
    refine g_t rfl rfl hb3 ?_
    refine st (l_fa (o_t rfl) fl_aCode_8 fa30_8 (lt rfl)) ?_
    refine g_t rfl rfl hb3 ?_
    refine st (l_ld (o_t rfl) ty28 (lt rfl)) ?_
    refine g_t rfl rfl hb3 ?_
    refine st (l_move (o_t rfl) (lt rfl)) ?_
    refine g_t rfl rfl hb3 ?_
    obtain ⟨t4, h5, hp_⟩ := bs hp_
    refine st (l_ia (o_t rfl) (o_t rfl) h5 sl28 sz59 (lt rfl)) ?_
    refine g_t rfl rfl hb3 ?_
    refine st (l_fa (o_t rfl) fl_aArr_1 fa59_1 (lt rfl)) ?_
    refine g_t rfl rfl hb3 ?_
    refine st (l_ld (o_t rfl) ty57 (lt rfl)) ?_
    refine g_t rfl rfl hb3 ?_
    refine st (l_move (o_t rfl) (lt rfl)) ?_
    refine g_t rfl rfl hb3 ?_
    refine st (l_cmp (o_t rfl) (o_t rfl) .eql (lt rfl)) ?_
    refine st (l_pickt (o_t rfl) hb3 (o_t rfl) (lt rfl)) ?_
    refine st (l_assign (o_t rfl) (lt rfl)) ?_
    refine r_nil (k_seq ?_)
    cases hp_
    exact t_ret (k_ret () rfl rfl rfl rfl rfl)
-- pointsman/code.rows$7
theorem ok89 (l : code_look) (x : aIns) (p2 : code_place) (y_ : Bool) (hp_ : code_rows_7 l x p2 = some y_) : FP Tryz.prog 89 [⟨(k_code_look).v, l⟩, ⟨(k_aIns).v, x⟩, ⟨(k_code_place).v, p2⟩] vBool y_ := by
  unfold code_rows_7 at hp_
  refine fc_of 17 Tryz.func89 rfl fn89 rfl (Nat.le_of_ble_eq_true rfl) fun I_ w_ F_ => ?_
  refine t_seq ?_
  refine t_reg ?_
  refine st (l_box (o_t rfl) (lt rfl)) ?_
  refine st (l_box (o_t rfl) (lt rfl)) ?_
  refine st (l_box (o_t rfl) (lt rfl)) ?_
  refine st (l_assign (o_b) (lt rfl)) ?_
  refine r_nil (k_seq ?_)
  refine t_seq ?_
  refine t_reg ?_
  refine st (l_ld (o_t rfl) ty51 (lt rfl)) ?_
  refine st (l_fa (o_t rfl) fl_aIns_2 fa75_2 (lt rfl)) ?_
  refine st (l_ld (o_t rfl) ty3 (lt rfl)) ?_
  obtain ⟨t1, h2, hp_⟩ := bs hp_
  refine st (l_call (ok54 l x.A _ h2) (.cons (o_t rfl) (.cons (o_t rfl) (.nil))) (lt rfl)) ?_
  refine st (l_move (o_t rfl) (lt rfl)) ?_
  rcases bt (t1) with hb3 | hb3
  · rw [if_neg (nt hb3)] at hp_
    refine g_n ⟨11, vBool, t1⟩ rfl rfl (noy_b (b := true) hb3) (lt rfl) ?_
    refine g_n ⟨11, vBool, t1⟩ rfl rfl (noy_b (b := true) hb3) (lt rfl) ?_
    refine g_n ⟨11, vBool, t1⟩ rfl rfl (noy_b (b := true) hb3) (lt rfl) ?_
    refine g_n ⟨11, vBool, t1⟩ rfl rfl (noy_b (b := true) hb3) (lt rfl) ?_
    refine st (l_pickf (o_t rfl) hb3 (o_b) (lt rfl)) ?_
    refine st (l_assign (o_t rfl) (lt rfl)) ?_
    refine r_nil (k_seq ?_)
    cases hp_
    exact t_ret (k_ret () rfl rfl rfl rfl rfl)
  · rw [if_pos hb3] at hp_
    refine g_t rfl rfl hb3 ?_
    refine st (l_ld (o_t rfl) ty51 (lt rfl)) ?_
    refine g_t rfl rfl hb3 ?_
    refine st (l_fa (o_t rfl) fl_aIns_4 fa75_4 (lt rfl)) ?_
    refine g_t rfl rfl hb3 ?_
    refine st (l_ld (o_t rfl) ty3 (lt rfl)) ?_
    refine g_t rfl rfl hb3 ?_
    obtain ⟨t4, h5, hp_⟩ := bs hp_
    refine st (l_call (ok90 l x.N (4 : Int) _ h5) (.cons (o_t rfl) (.cons (o_t rfl) (.cons (o_i) (.nil)))) (lt rfl)) ?_
    refine st (l_pickt (o_t rfl) hb3 (o_t rfl) (lt rfl)) ?_
    refine st (l_assign (o_t rfl) (lt rfl)) ?_
    refine r_nil (k_seq ?_)
    cases hp_
    exact t_ret (k_ret () rfl rfl rfl rfl rfl)
-- pointsman/code.rows$8
theorem ok91 (l : code_look) (x : aIns) (p2 : code_place) (y_ : Bool) (hp_ : code_rows_8 l x p2 = some y_) : FP Tryz.prog 91 [⟨(k_code_look).v, l⟩, ⟨(k_aIns).v, x⟩, ⟨(k_code_place).v, p2⟩] vBool y_ := by
  unfold code_rows_8 at hp_
  refine fc_of 31 Tryz.func91 rfl fn91 rfl (Nat.le_of_ble_eq_true rfl) fun I_ w_ F_ => ?_
  refine t_seq ?_
  refine t_reg ?_
  refine st (l_box (o_t rfl) (lt rfl)) ?_
  refine st (l_box (o_t rfl) (lt rfl)) ?_
  refine st (l_box (o_t rfl) (lt rfl)) ?_
  refine st (l_assign (o_b) (lt rfl)) ?_
  refine r_nil (k_seq ?_)
  refine t_seq ?_
  obtain ⟨t1, h2, hp_⟩ := bs hp_
  rcases bt (t1) with hb3 | hb3
  · rw [if_neg (nt hb3)] at hp_
    refine t_draw [(0, fun gs_ => some ⟨7, (k_code_look).v, l⟩), (0, fun gs_ => some ⟨8, vPtr (kInt .i64), x.A⟩), (0, fun gs_ => some ⟨9, vInt .i64, x.A⟩), (0, fun gs_ => some ⟨10, vBool, t1⟩), (0, fun gs_ => some ⟨11, vBool, t1⟩), (0, fun _ => some ⟨12, vUnd, ()⟩), (0, fun _ => some ⟨13, vUnd, ()⟩), (0, fun _ => some ⟨14, vUnd, ()⟩), (0, fun _ => some ⟨15, vUnd, ()⟩), (0, fun gs_ => some ⟨16, vBool, false⟩), (0, fun gs_ => some ⟨17, vBool, false⟩), (0, fun _ => some ⟨18, vUnd, ()⟩), (0, fun _ => some ⟨19, vUnd, ()⟩), (0, fun _ => some ⟨20, vUnd, ()⟩), (0, fun _ => some ⟨21, vUnd, ()⟩), (0, fun _ => some ⟨22, vUnd, ()⟩), (0, fun _ => some ⟨23, vUnd, ()⟩), (0, fun _ => some ⟨24, vUnd, ()⟩), (0, fun _ => some ⟨25, vUnd, ()⟩), (0, fun _ => some ⟨26, vUnd, ()⟩), (0, fun _ => some ⟨27, vUnd, ()⟩), (0, fun _ => some ⟨28, vUnd, ()⟩), (0, fun _ => some ⟨29, vUnd, ()⟩), (0, fun gs_ => some ⟨30, vBool, false⟩), (0, fun gs_ => some ⟨6, vBool, false⟩)] mixed rfl rfl (fun _ => []) [] rfl (.x (f := fun gs_ => ⟨7, (k_code_look).v, l⟩) 0 (fun gs_ => [⟨3, vPtr k_code_look, l⟩]) rfl (fun gs_ => l_ld (o_t rfl) ty51 (lt rfl)) (fun gs_ => .b rfl rfl (.nil)) .n (fun _ => rfl) rfl (fun _ _ _ => rfl) (.x (f := fun gs_ => ⟨8, vPtr (kInt .i64), x.A⟩) 0 (fun gs_ => [⟨4, vPtr k_aIns, x⟩]) rfl (fun gs_ => l_fa (o_t rfl) fl_aIns_2 fa75_2 (lt rfl)) (fun gs_ => .b rfl rfl (.nil)) .n (fun _ => rfl) rfl (fun _ _ _ => rfl) (.x (f := fun gs_ => ⟨9, vInt .i64, x.A⟩) 0 (fun gs_ => [⟨8, vPtr (kInt .i64), x.A⟩]) rfl (fun gs_ => l_ld (o_t rfl) ty3 (lt rfl)) (fun gs_ => .d 1 rfl rfl (.nil)) .n (fun _ => rfl) rfl (fun _ _ _ => rfl) (.x (f := fun gs_ => ⟨10, vBool, t1⟩) 0 (fun gs_ => [⟨7, (k_code_look).v, l⟩, ⟨9, vInt .i64, x.A⟩]) rfl (fun gs_ => l_call (ok54 l x.A _ h2) (.cons (o_t rfl) (.cons (o_t rfl) (.nil))) (lt rfl)) (fun gs_ => .d 0 rfl rfl (.d 2 rfl rfl (.nil))) .n (fun _ => rfl) rfl (fun _ _ _ => rfl) (.x (f := fun gs_ => ⟨11, vBool, t1⟩) 0 (fun gs_ => [⟨10, vBool, t1⟩]) rfl (fun gs_ => l_move (o_t rfl) (lt rfl)) (fun gs_ => .d 3 rfl rfl (.nil)) .n (fun _ => rfl) rfl (fun _ _ _ => rfl) (.n (fun gs_ => ⟨11, vBool, t1⟩) rfl (fun _ => rfl) (fun gs_ => .d 4 rfl rfl (.nil)) (fun _ => noy_b (b := true) hb3) (lt rfl) (.n (fun gs_ => ⟨11, vBool, t1⟩) rfl (fun _ => rfl) (fun gs_ => .d 4 rfl rfl (.nil)) (fun _ => noy_b (b := true) hb3) (lt rfl) (.n (fun gs_ => ⟨11, vBool, t1⟩) rfl (fun _ => rfl) (fun gs_ => .d 4 rfl rfl (.nil)) (fun _ => noy_b (b := true) hb3) (lt rfl) (.n (fun gs_ => ⟨11, vBool, t1⟩) rfl (fun _ => rfl) (fun gs_ => .d 4 rfl rfl (.nil)) (fun _ => noy_b (b := true) hb3) (lt rfl) (.x (f := fun gs_ => ⟨16, vBool, false⟩) 0 (fun gs_ => [⟨11, vBool, t1⟩]) rfl (fun gs_ => l_pickf (o_t rfl) hb3 (o_b) (lt rfl)) (fun gs_ => .d 4 rfl rfl (.nil)) .n (fun _ => rfl) rfl (fun _ _ _ => rfl) (.x (f := fun gs_ => ⟨17, vBool, false⟩) 0 (fun gs_ => [⟨16, vBool, false⟩]) rfl (fun gs_ => l_move (o_t rfl) (lt rfl)) (fun gs_ => .d 9 rfl rfl (.nil)) .n (fun _ => rfl) rfl (fun _ _ _ => rfl) (.n (fun gs_ => ⟨17, vBool, false⟩) rfl (fun _ => rfl) (fun gs_ => .d 10 rfl rfl (.nil)) (fun _ => noy_b (b := true) rfl) (lt rfl) (.n (fun gs_ => ⟨17, vBool, false⟩) rfl (fun _ => rfl) (fun gs_ => .d 10 rfl rfl (.nil)) (fun _ => noy_b (b := true) rfl) (lt rfl) (.n (fun gs_ => ⟨17, vBool, false⟩) rfl (fun _ => rfl) (fun gs_ => .d 10 rfl rfl (.nil)) (fun _ => noy_b (b := true) rfl) (lt rfl) (.n (fun gs_ => ⟨17, vBool, false⟩) rfl (fun _ => rfl) (fun gs_ => .d 10 rfl rfl (.nil)) (fun _ => noy_b (b := true) rfl) (lt rfl) (.n (fun gs_ => ⟨17, vBool, false⟩) rfl (fun _ => rfl) (fun gs_ => .d 10 rfl rfl (.nil)) (fun _ => noy_b (b := true) rfl) (lt rfl) (.n (fun gs_ => ⟨17, vBool, false⟩) rfl (fun _ => rfl) (fun gs_ => .d 10 rfl rfl (.nil)) (fun _ => noy_b (b := true) rfl) (lt rfl) (.n (fun gs_ => ⟨17, vBool, false⟩) rfl (fun _ => rfl) (fun gs_ => .d 10 rfl rfl (.nil)) (fun _ => noy_b (b := true) rfl) (lt rfl) (.n (fun gs_ => ⟨17, vBool, false⟩) rfl (fun _ => rfl) (fun gs_ => .d 10 rfl rfl (.nil)) (fun _ => noy_b (b := true) rfl) (lt rfl) (.n (fun gs_ => ⟨17, vBool, false⟩) rfl (fun _ => rfl) (fun gs_ => .d 10 rfl rfl (.nil)) (fun _ => noy_b (b := true) rfl) (lt rfl) (.n (fun gs_ => ⟨17, vBool, false⟩) rfl (fun _ => rfl) (fun gs_ => .d 10 rfl rfl (.nil)) (fun _ => noy_b (b := true) rfl) (lt rfl) (.n (fun gs_ => ⟨17, vBool, false⟩) rfl (fun _ => rfl) (fun gs_ => .d 10 rfl rfl (.nil)) (fun _ => noy_b (b := true) rfl) (lt rfl) (.n (fun gs_ => ⟨17, vBool, false⟩) rfl (fun _ => rfl) (fun gs_ => .d 10 rfl rfl (.nil)) (fun _ => noy_b (b := true) rfl) (lt rfl) (.x (f := fun gs_ => ⟨30, vBool, false⟩) 0 (fun gs_ => [⟨17, vBool, false⟩]) rfl (fun gs_ => l_pickf (o_t rfl) rfl (o_b) (lt rfl)) (fun gs_ => .d 10 rfl rfl (.nil)) .n (fun _ => rfl) rfl (fun _ _ _ => rfl) (.x (f := fun gs_ => ⟨6, vBool, false⟩) 0 (fun gs_ => [⟨30, vBool, false⟩]) rfl (fun gs_ => l_assign (o_t rfl) (lt rfl)) (fun gs_ => .d 23 rfl rfl (.nil)) .n (fun _ => rfl) rfl (fun _ _ _ => rfl) (.nil)))))))))))))))))))))))))) (fun gs_ hgs_ => ?_)
    refine k_seq ?_
    cases hp_
    exact t_ret (k_ret () rfl rfl rfl rfl rfl)
  · rw [if_pos hb3] at hp_
    obtain ⟨t4, h5, hp_⟩ := bs hp_
    rcases bt (t4) with hb6 | hb6
    · rw [if_neg (nt hb6)] at hp_
      refine t_draw [(0, fun gs_ => some ⟨7, (k_code_look).v, l⟩), (0, fun gs_ => some ⟨8, vPtr (kInt .i64), x.A⟩), (0, fun gs_ => some ⟨9, vInt .i64, x.A⟩), (0, fun gs_ => some ⟨10, vBool, t1⟩), (0, fun gs_ => some ⟨11, vBool, t1⟩), (0, fun gs_ => some ⟨12, (k_code_look).v, l⟩), (0, fun gs_ => some ⟨13, vPtr (kInt .i64), x.N⟩), (0, fun gs_ => some ⟨14, vInt .i64, x.N⟩), (0, fun gs_ => some ⟨15, vBool, t4⟩), (0, fun gs_ => some ⟨16, vBool, t4⟩), (0, fun gs_ => some ⟨17, vBool, t4⟩), (0, fun _ => some ⟨18, vUnd, ()⟩), (0, fun _ => some ⟨19, vUnd, ()⟩), (0, fun _ => some ⟨20, vUnd, ()⟩), (0, fun _ => some ⟨21, vUnd, ()⟩), (0, fun _ => some ⟨22, vUnd, ()⟩), (0, fun _ => some ⟨23, vUnd, ()⟩), (0, fun _ => some ⟨24, vUnd, ()⟩), (0, fun _ => some ⟨25, vUnd, ()⟩), (0, fun _ => some ⟨26, vUnd, ()⟩), (0, fun _ => some ⟨27, vUnd, ()⟩), (0, fun _ => some ⟨28, vUnd, ()⟩), (0, fun _ => some ⟨29, vUnd, ()⟩), (0, fun gs_ => some ⟨30, vBool, false⟩), (0, fun gs_ => some ⟨6, vBool, false⟩)] mixed rfl rfl (fun _ => []) [] rfl (.x (f := fun gs_ => ⟨7, (k_code_look).v, l⟩) 0 (fun gs_ => [⟨3, vPtr k_code_look, l⟩]) rfl (fun gs_ => l_ld (o_t rfl) ty51 (lt rfl)) (fun gs_ => .b rfl rfl (.nil)) .n (fun _ => rfl) rfl (fun _ _ _ => rfl) (.x (f := fun gs_ => ⟨8, vPtr (kInt .i64), x.A⟩) 0 (fun gs_ => [⟨4, vPtr k_aIns, x⟩]) rfl (fun gs_ => l_fa (o_t rfl) fl_aIns_2 fa75_2 (lt rfl)) (fun gs_ => .b rfl rfl (.nil)) .n (fun _ => rfl) rfl (fun _ _ _ => rfl) (.x (f := fun gs_ => ⟨9, vInt .i64, x.A⟩) 0 (fun gs_ => [⟨8, vPtr (kInt .i64), x.A⟩]) rfl (fun gs_ => l_ld (o_t rfl) ty3 (lt rfl)) (fun gs_ => .d 1 rfl rfl (.nil)) .n (fun _ => rfl) rfl (fun _ _ _ => rfl) (.x (f := fun gs_ => ⟨10, vBool, t1⟩) 0 (fun gs_ => [⟨7, (k_code_look).v, l⟩, ⟨9, vInt .i64, x.A⟩]) rfl (fun gs_ => l_call (ok54 l x.A _ h2) (.cons (o_t rfl) (.cons (o_t rfl) (.nil))) (lt rfl)) (fun gs_ => .d 0 rfl rfl (.d 2 rfl rfl (.nil))) .n (fun _ => rfl) rfl (fun _ _ _ => rfl) (.x (f := fun gs_ => ⟨11, vBool, t1⟩) 0 (fun gs_ => [⟨10, vBool, t1⟩]) rfl (fun gs_ => l_move (o_t rfl) (lt rfl)) (fun gs_ => .d 3 rfl rfl (.nil)) .n (fun _ => rfl) rfl (fun _ _ _ => rfl) (.x (f := fun gs_ => ⟨12, (k_code_look).v, l⟩) 0 (fun gs_ => [⟨3, vPtr k_code_look, l⟩]) rfl (fun gs_ => l_ld (o_t rfl) ty51 (lt rfl)) (fun gs_ => .b rfl rfl (.nil)) (.s rfl (fun gs_ => .d 4 rfl rfl (.nil)) hb3) (fun _ => rfl) rfl (fun _ _ _ => rfl) (.x (f := fun gs_ => ⟨13, vPtr (kInt .i64), x.N⟩) 0 (fun gs_ => [⟨4, vPtr k_aIns, x⟩]) rfl (fun gs_ => l_fa (o_t rfl) fl_aIns_4 fa75_4 (lt rfl)) (fun gs_ => .b rfl rfl (.nil)) (.s rfl (fun gs_ => .d 4 rfl rfl (.nil)) hb3) (fun _ => rfl) rfl (fun _ _ _ => rfl) (.x (f := fun gs_ => ⟨14, vInt .i64, x.N⟩) 0 (fun gs_ => [⟨13, vPtr (kInt .i64), x.N⟩]) rfl (fun gs_ => l_ld (o_t rfl) ty3 (lt rfl)) (fun gs_ => .d 6 rfl rfl (.nil)) (.s rfl (fun gs_ => .d 4 rfl rfl (.nil)) hb3) (fun _ => rfl) rfl (fun _ _ _ => rfl) (.x (f := fun gs_ => ⟨15, vBool, t4⟩) 0 (fun gs_ => [⟨12, (k_code_look).v, l⟩, ⟨14, vInt .i64, x.N⟩]) rfl (fun gs_ => l_call (ok90 l x.N (3 : Int) _ h5) (.cons (o_t rfl) (.cons (o_t rfl) (.cons (o_i) (.nil)))) (lt rfl)) (fun gs_ => .d 5 rfl rfl (.d 7 rfl rfl (.nil))) (.s rfl (fun gs_ => .d 4 rfl rfl (.nil)) hb3) (fun _ => rfl) rfl (fun _ _ _ => rfl) (.x (f := fun gs_ => ⟨16, vBool, t4⟩) 0 (fun gs_ => [⟨11, vBool, t1⟩, ⟨15, vBool, t4⟩]) rfl (fun gs_ => l_pickt (o_t rfl) hb3 (o_t rfl) (lt rfl)) (fun gs_ => .d 4 rfl rfl (.d 8 rfl rfl (.nil))) .n (fun _ => rfl) rfl (fun _ _ _ => rfl) (.x (f := fun gs_ => ⟨17, vBool, t4⟩) 0 (fun gs_ => [⟨16, vBool, t4⟩]) rfl (fun gs_ => l_move (o_t rfl) (lt rfl)) (fun gs_ => .d 9 rfl rfl (.nil)) .n (fun _ => rfl) rfl (fun _ _ _ => rfl) (.n (fun gs_ => ⟨17, vBool, t4⟩) rfl (fun _ => rfl) (fun gs_ => .d 10 rfl rfl (.nil)) (fun _ => noy_b (b := true) hb6) (lt rfl) (.n (fun gs_ => ⟨17, vBool, t4⟩) rfl (fun _ => rfl) (fun gs_ => .d 10 rfl rfl (.nil)) (fun _ => noy_b (b := true) hb6) (lt rfl) (.n (fun gs_ => ⟨17, vBool, t4⟩) rfl (fun _ => rfl) (fun gs_ => .d 10 rfl rfl (.nil)) (fun _ => noy_b (b := true) hb6) (lt rfl) (.n (fun gs_ => ⟨17, vBool, t4⟩) rfl (fun _ => rfl) (fun gs_ => .d 10 rfl rfl (.nil)) (fun _ => noy_b (b := true) hb6) (lt rfl) (.n (fun gs_ => ⟨17, vBool, t4⟩) rfl (fun _ => rfl) (fun gs_ => .d 10 rfl rfl (.nil)) (fun _ => noy_b (b := true) hb6) (lt rfl) (.n (fun gs_ => ⟨17, vBool, t4⟩) rfl (fun _ => rfl) (fun gs_ => .d 10 rfl rfl (.nil)) (fun _ => noy_b (b := true) hb6) (lt rfl) (.n (fun gs_ => ⟨17, vBool, t4⟩) rfl (fun _ => rfl) (fun gs_ => .d 10 rfl rfl (.nil)) (fun _ => noy_b (b := true) hb6) (lt rfl) (.n (fun gs_ => ⟨17, vBool, t4⟩) rfl (fun _ => rfl) (fun gs_ => .d 10 rfl rfl (.nil)) (fun _ => noy_b (b := true) hb6) (lt rfl) (.n (fun gs_ => ⟨17, vBool, t4⟩) rfl (fun _ => rfl) (fun gs_ => .d 10 rfl rfl (.nil)) (fun _ => noy_b (b := true) hb6) (lt rfl) (.n (fun gs_ => ⟨17, vBool, t4⟩) rfl (fun _ => rfl) (fun gs_ => .d 10 rfl rfl (.nil)) (fun _ => noy_b (b := true) hb6) (lt rfl) (.n (fun gs_ => ⟨17, vBool, t4⟩) rfl (fun _ => rfl) (fun gs_ => .d 10 rfl rfl (.nil)) (fun _ => noy_b (b := true) hb6) (lt rfl) (.n (fun gs_ => ⟨17, vBool, t4⟩) rfl (fun _ => rfl) (fun gs_ => .d 10 rfl rfl (.nil)) (fun _ => noy_b (b := true) hb6) (lt rfl) (.x (f := fun gs_ => ⟨30, vBool, false⟩) 0 (fun gs_ => [⟨17, vBool, t4⟩]) rfl (fun gs_ => l_pickf (o_t rfl) hb6 (o_b) (lt rfl)) (fun gs_ => .d 10 rfl rfl (.nil)) .n (fun _ => rfl) rfl (fun _ _ _ => rfl) (.x (f := fun gs_ => ⟨6, vBool, false⟩) 0 (fun gs_ => [⟨30, vBool, false⟩]) rfl (fun gs_ => l_assign (o_t rfl) (lt rfl)) (fun gs_ => .d 23 rfl rfl (.nil)) .n (fun _ => rfl) rfl (fun _ _ _ => rfl) (.nil)))))))))))))))))))))))))) (fun gs_ hgs_ => ?_)
      refine k_seq ?_
      cases hp_
      exact t_ret (k_ret () rfl rfl rfl rfl rfl)
    · rw [if_pos hb6] at hp_
      obtain ⟨t7, h8, hp_⟩ := bs hp_
      obtain ⟨t9, h10, hp_⟩ := bs hp_
      refine t_draw [(0, fun gs_ => some ⟨7, (k_code_look).v, l⟩), (0, fun gs_ => some ⟨8, vPtr (kInt .i64), x.A⟩), (0, fun gs_ => some ⟨9, vInt .i64, x.A⟩), (0, fun gs_ => some ⟨10, vBool, t1⟩), (0, fun gs_ => some ⟨11, vBool, t1⟩), (0, fun gs_ => some ⟨12, (k_code_look).v, l⟩), (0, fun gs_ => some ⟨13, vPtr (kInt .i64), x.N⟩), (0, fun gs_ => some ⟨14, vInt .i64, x.N⟩), (0, fun gs_ => some ⟨15, vBool, t4⟩), (0, fun gs_ => some ⟨16, vBool, t4⟩), (0, fun gs_ => some ⟨17, vBool, t4⟩), (0, fun gs_ => some ⟨18, (k_code_look).v, l⟩), (0, fun gs_ => some ⟨19, vPtr (kInt .i64), x.To⟩), (0, fun gs_ => some ⟨20, vInt .i64, x.To⟩), (0, fun gs_ => some ⟨21, vPtr k_aCode, l.c⟩), (0, fun gs_ => some ⟨22, vPtr (kSlice k_aArr), l.c.Arrays⟩), (0, fun gs_ => some ⟨23, vSlice k_aArr, l.c.Arrays⟩), (0, fun gs_ => some ⟨24, vPtr (kInt .i64), x.N⟩), (0, fun gs_ => some ⟨25, vInt .i64, x.N⟩), (0, fun gs_ => some ⟨26, vPtr k_aArr, t7⟩), (0, fun gs_ => some ⟨27, vPtr (kInt .i64), t7.W⟩), (0, fun gs_ => some ⟨28, vInt .i64, t7.W⟩), (0, fun gs_ => some ⟨29, vBool, t9⟩), (0, fun gs_ => some ⟨30, vBool, t9⟩), (0, fun gs_ => some ⟨6, vBool, t9⟩)] mixed rfl rfl (fun _ => []) [] rfl (.x (f := fun gs_ => ⟨7, (k_code_look).v, l⟩) 0 (fun gs_ => [⟨3, vPtr k_code_look, l⟩]) rfl (fun gs_ => l_ld (o_t rfl) ty51 (lt rfl)) (fun gs_ => .b rfl rfl (.nil)) .n (fun _ => rfl) rfl (fun _ _ _ => rfl) (.x (f := fun gs_ => ⟨8, vPtr (kInt .i64), x.A⟩) 0 (fun gs_ => [⟨4, vPtr k_aIns, x⟩]) rfl (fun gs_ => l_fa (o_t rfl) fl_aIns_2 fa75_2 (lt rfl)) (fun gs_ => .b rfl rfl (.nil)) .n (fun _ => rfl) rfl (fun _ _ _ => rfl) (.x (f := fun gs_ => ⟨9, vInt .i64, x.A⟩) 0 (fun gs_ => [⟨8, vPtr (kInt .i64), x.A⟩]) rfl (fun gs_ => l_ld (o_t rfl) ty3 (lt rfl)) (fun gs_ => .d 1 rfl rfl (.nil)) .n (fun _ => rfl) rfl (fun _ _ _ => rfl) (.x (f := fun gs_ => ⟨10, vBool, t1⟩) 0 (fun gs_ => [⟨7, (k_code_look).v, l⟩, ⟨9, vInt .i64, x.A⟩]) rfl (fun gs_ => l_call (ok54 l x.A _ h2) (.cons (o_t rfl) (.cons (o_t rfl) (.nil))) (lt rfl)) (fun gs_ => .d 0 rfl rfl (.d 2 rfl rfl (.nil))) .n (fun _ => rfl) rfl (fun _ _ _ => rfl) (.x (f := fun gs_ => ⟨11, vBool, t1⟩) 0 (fun gs_ => [⟨10, vBool, t1⟩]) rfl (fun gs_ => l_move (o_t rfl) (lt rfl)) (fun gs_ => .d 3 rfl rfl (.nil)) .n (fun _ => rfl) rfl (fun _ _ _ => rfl) (.x (f := fun gs_ => ⟨12, (k_code_look).v, l⟩) 0 (fun gs_ => [⟨3, vPtr k_code_look, l⟩]) rfl (fun gs_ => l_ld (o_t rfl) ty51 (lt rfl)) (fun gs_ => .b rfl rfl (.nil)) (.s rfl (fun gs_ => .d 4 rfl rfl (.nil)) hb3) (fun _ => rfl) rfl (fun _ _ _ => rfl) (.x (f := fun gs_ => ⟨13, vPtr (kInt .i64), x.N⟩) 0 (fun gs_ => [⟨4, vPtr k_aIns, x⟩]) rfl (fun gs_ => l_fa (o_t rfl) fl_aIns_4 fa75_4 (lt rfl)) (fun gs_ => .b rfl rfl (.nil)) (.s rfl (fun gs_ => .d 4 rfl rfl (.nil)) hb3) (fun _ => rfl) rfl (fun _ _ _ => rfl) (.x (f := fun gs_ => ⟨14, vInt .i64, x.N⟩) 0 (fun gs_ => [⟨13, vPtr (kInt .i64), x.N⟩]) rfl (fun gs_ => l_ld (o_t rfl) ty3 (lt rfl)) (fun gs_ => .d 6 rfl rfl (.nil)) (.s rfl (fun gs_ => .d 4 rfl rfl (.nil)) hb3) (fun _ => rfl) rfl (fun _ _ _ => rfl) (.x (f := fun gs_ => ⟨15, vBool, t4⟩) 0 (fun gs_ => [⟨12, (k_code_look).v, l⟩, ⟨14, vInt .i64, x.N⟩]) rfl (fun gs_ => l_call (ok90 l x.N (3 : Int) _ h5) (.cons (o_t rfl) (.cons (o_t rfl) (.cons (o_i) (.nil)))) (lt rfl)) (fun gs_ => .d 5 rfl rfl (.d 7 rfl rfl (.nil))) (.s rfl (fun gs_ => .d 4 rfl rfl (.nil)) hb3) (fun _ => rfl) rfl (fun _ _ _ => rfl) (.x (f := fun gs_ => ⟨16, vBool, t4⟩) 0 (fun gs_ => [⟨11, vBool, t1⟩, ⟨15, vBool, t4⟩]) rfl (fun gs_ => l_pickt (o_t rfl) hb3 (o_t rfl) (lt rfl)) (fun gs_ => .d 4 rfl rfl (.d 8 rfl rfl (.nil))) .n (fun _ => rfl) rfl (fun _ _ _ => rfl) (.x (f := fun gs_ => ⟨17, vBool, t4⟩) 0 (fun gs_ => [⟨16, vBool, t4⟩]) rfl (fun gs_ => l_move (o_t rfl) (lt rfl)) (fun gs_ => .d 9 rfl rfl (.nil)) .n (fun _ => rfl) rfl (fun _ _ _ => rfl) (.x (f := fun gs_ => ⟨18, (k_code_look).v, l⟩) 0 (fun gs_ => [⟨3, vPtr k_code_look, l⟩]) rfl (fun gs_ => l_ld (o_t rfl) ty51 (lt rfl)) (fun gs_ => .b rfl rfl (.nil)) (.s rfl (fun gs_ => .d 10 rfl rfl (.nil)) hb6) (fun _ => rfl) rfl (fun _ _ _ => rfl) (.x (f := fun gs_ => ⟨19, vPtr (kInt .i64), x.To⟩) 0 (fun gs_ => [⟨4, vPtr k_aIns, x⟩]) rfl (fun gs_ => l_fa (o_t rfl) fl_aIns_1 fa75_1 (lt rfl)) (fun gs_ => .b rfl rfl (.nil)) (.s rfl (fun gs_ => .d 10 rfl rfl (.nil)) hb6) (fun _ => rfl) rfl (fun _ _ _ => rfl) (.x (f := fun gs_ => ⟨20, vInt .i64, x.To⟩) 0 (fun gs_ => [⟨19, vPtr (kInt .i64), x.To⟩]) rfl (fun gs_ => l_ld (o_t rfl) ty3 (lt rfl)) (fun gs_ => .d 12 rfl rfl (.nil)) (.s rfl (fun gs_ => .d 10 rfl rfl (.nil)) hb6) (fun _ => rfl) rfl (fun _ _ _ => rfl) (.x (f := fun gs_ => ⟨21, vPtr k_aCode, l.c⟩) 0 (fun gs_ => [⟨3, vPtr k_code_look, l⟩]) rfl (fun gs_ => l_fa (o_t rfl) fl_code_look_0 fa51_0 (lt rfl)) (fun gs_ => .b rfl rfl (.nil)) (.s rfl (fun gs_ => .d 10 rfl rfl (.nil)) hb6) (fun _ => rfl) rfl (fun _ _ _ => rfl) (.x (f := fun gs_ => ⟨22, vPtr (kSlice k_aArr), l.c.Arrays⟩) 0 (fun gs_ => [⟨21, vPtr k_aCode, l.c⟩]) rfl (fun gs_ => l_fa (o_t rfl) fl_aCode_8 fa30_8 (lt rfl)) (fun gs_ => .d 14 rfl rfl (.nil)) (.s rfl (fun gs_ => .d 10 rfl rfl (.nil)) hb6) (fun _ => rfl) rfl (fun _ _ _ => rfl) (.x (f := fun gs_ => ⟨23, vSlice k_aArr, l.c.Arrays⟩) 0 (fun gs_ => [⟨22, vPtr (kSlice k_aArr), l.c.Arrays⟩]) rfl (fun gs_ => l_ld (o_t rfl) ty28 (lt rfl)) (fun gs_ => .d 15 rfl rfl (.nil)) (.s rfl (fun gs_ => .d 10 rfl rfl (.nil)) hb6) (fun _ => rfl) rfl (fun _ _ _ => rfl) (.x (f := fun gs_ => ⟨24, vPtr (kInt .i64), x.N⟩) 0 (fun gs_ => [⟨4, vPtr k_aIns, x⟩]) rfl (fun gs_ => l_fa (o_t rfl) fl_aIns_4 fa75_4 (lt rfl)) (fun gs_ => .b rfl rfl (.nil)) (.s rfl (fun gs_ => .d 10 rfl rfl (.nil)) hb6) (fun _ => rfl) rfl (fun _ _ _ => rfl) (.x (f := fun gs_ => ⟨25, vInt .i64, x.N⟩) 0 (fun gs_ => [⟨24, vPtr (kInt .i64), x.N⟩]) rfl (fun gs_ => l_ld (o_t rfl) ty3 (lt rfl)) (fun gs_ => .d 17 rfl rfl (.nil)) (.s rfl (fun gs_ => .d 10 rfl rfl (.nil)) hb6) (fun _ => rfl) rfl (fun _ _ _ => rfl) (.x (f := fun gs_ => ⟨26, vPtr k_aArr, t7⟩) 0 (fun gs_ => [⟨23, vSlice k_aArr, l.c.Arrays⟩, ⟨25, vInt .i64, x.N⟩]) rfl (fun gs_ => l_ia (o_t rfl) (o_t rfl) h8 sl28 sz59 (lt rfl)) (fun gs_ => .d 16 rfl rfl (.d 18 rfl rfl (.nil))) (.s rfl (fun gs_ => .d 10 rfl rfl (.nil)) hb6) (fun _ => rfl) rfl (fun _ _ _ => rfl) (.x (f := fun gs_ => ⟨27, vPtr (kInt .i64), t7.W⟩) 0 (fun gs_ => [⟨26, vPtr k_aArr, t7⟩]) rfl (fun gs_ => l_fa (o_t rfl) fl_aArr_2 fa59_2 (lt rfl)) (fun gs_ => .d 19 rfl rfl (.nil)) (.s rfl (fun gs_ => .d 10 rfl rfl (.nil)) hb6) (fun _ => rfl) rfl (fun _ _ _ => rfl) (.x (f := fun gs_ => ⟨28, vInt .i64, t7.W⟩) 0 (fun gs_ => [⟨27, vPtr (kInt .i64), t7.W⟩]) rfl (fun gs_ => l_ld (o_t rfl) ty3 (lt rfl)) (fun gs_ => .d 20 rfl rfl (.nil)) (.s rfl (fun gs_ => .d 10 rfl rfl (.nil)) hb6) (fun _ => rfl) rfl (fun _ _ _ => rfl) (.x (f := fun gs_ => ⟨29, vBool, t9⟩) 0 (fun gs_ => [⟨18, (k_code_look).v, l⟩, ⟨20, vInt .i64, x.To⟩, ⟨28, vInt .i64, t7.W⟩]) rfl (fun gs_ => l_call (ok45 l x.To t7.W _ h10) (.cons (o_t rfl) (.cons (o_t rfl) (.cons (o_t rfl) (.nil)))) (lt rfl)) (fun gs_ => .d 11 rfl rfl (.d 13 rfl rfl (.d 21 rfl rfl (.nil)))) (.s rfl (fun gs_ => .d 10 rfl rfl (.nil)) hb6) (fun _ => rfl) rfl (fun _ _ _ => rfl) (.x (f := fun gs_ => ⟨30, vBool, t9⟩) 0 (fun gs_ => [⟨17, vBool, t4⟩, ⟨29, vBool, t9⟩]) rfl (fun gs_ => l_pickt (o_t rfl) hb6 (o_t rfl) (lt rfl)) (fun gs_ => .d 10 rfl rfl (.d 22 rfl rfl (.nil))) .n (fun _ => rfl) rfl (fun _ _ _ => rfl) (.x (f := fun gs_ => ⟨6, vBool, t9⟩) 0 (fun gs_ => [⟨30, vBool, t9⟩]) rfl (fun gs_ => l_assign (o_t rfl) (lt rfl)) (fun gs_ => .d 23 rfl rfl (.nil)) .n (fun _ => rfl) rfl (fun _ _ _ => rfl) (.nil)))))))))))))))))))))))))) (fun gs_ hgs_ => ?_)
      refine k_seq ?_
      cases hp_
      exact t_ret (k_ret () rfl rfl rfl rfl rfl)
-- pointsman/code.rows$9
theorem ok92 (l : code_look) (x : aIns) (p2 : code_place) (y_ : Bool) (hp_ : code_rows_9 l x p2 = some y_) : FP Tryz.prog 92 [⟨(k_code_look).v, l⟩, ⟨(k_aIns).v, x⟩, ⟨(k_code_place).v, p2⟩] vBool y_ := by
  unfold code_rows_9 at hp_
  refine fc_of 31 Tryz.func92 rfl fn92 rfl (Nat.le_of_ble_eq_true rfl) fun I_ w_ F_ => ?_
  refine t_seq ?_
  refine t_reg ?_
  refine st (l_box (o_t rfl) (lt rfl)) ?_
  refine st (l_box (o_t rfl) (lt rfl)) ?_
  refine st (l_box (o_t rfl) (lt rfl)) ?_
  refine st (l_assign (o_b) (lt rfl)) ?_
  refine r_nil (k_seq ?_)
  refine t_seq ?_
  obtain ⟨t1, h2, hp_⟩ := bs hp_
  rcases bt (t1) with hb3 | hb3
  · rw [if_neg (nt hb3)] at hp_
    refine t_draw [(0, fun gs_ => some ⟨7, (k_code_look).v, l⟩), (0, fun gs_ => some ⟨8, vPtr (kInt .i64), x.A⟩), (0, fun gs_ => some ⟨9, vInt .i64, x.A⟩), (0, fun gs_ => some ⟨10, vBool, t1⟩), (0, fun gs_ => some ⟨11, vBool, t1⟩), (0, fun _ => some ⟨12, vUnd, ()⟩), (0, fun _ => some ⟨13, vUnd, ()⟩), (0, fun _ => some ⟨14, vUnd, ()⟩), (0, fun _ => some ⟨15, vUnd, ()⟩), (0, fun gs_ => some ⟨16, vBool, false⟩), (0, fun gs_ => some ⟨17, vBool, false⟩), (0, fun _ => some ⟨18, vUnd, ()⟩), (0, fun _ => some ⟨19, vUnd, ()⟩), (0, fun _ => some ⟨20, vUnd, ()⟩), (0, fun _ => some ⟨21, vUnd, ()⟩), (0, fun _ => some ⟨22, vUnd, ()⟩), (0, fun _ => some ⟨23, vUnd, ()⟩), (0, fun _ => some ⟨24, vUnd, ()⟩), (0, fun _ => some ⟨25, vUnd, ()⟩), (0, fun _ => some ⟨26, vUnd, ()⟩), (0, fun _ => some ⟨27, vUnd, ()⟩), (0, fun _ => some ⟨28, vUnd, ()⟩), (0, fun _ => some ⟨29, vUnd, ()⟩), (0, fun gs_ => some ⟨30, vBool, false⟩), (0, fun gs_ => some ⟨6, vBool, false⟩)] mixed rfl rfl (fun _ => []) [] rfl (.x (f := fun gs_ => ⟨7, (k_code_look).v, l⟩) 0 (fun gs_ => [⟨3, vPtr k_code_look, l⟩]) rfl (fun gs_ => l_ld (o_t rfl) ty51 (lt rfl)) (fun gs_ => .b rfl rfl (.nil)) .n (fun _ => rfl) rfl (fun _ _ _ => rfl) (.x (f := fun gs_ => ⟨8, vPtr (kInt .i64), x.A⟩) 0 (fun gs_ => [⟨4, vPtr k_aIns, x⟩]) rfl (fun gs_ => l_fa (o_t rfl) fl_aIns_2 fa75_2 (lt rfl)) (fun gs_ => .b rfl rfl (.nil)) .n (fun _ => rfl) rfl (fun _ _ _ => rfl) (.x (f := fun gs_ => ⟨9, vInt .i64, x.A⟩) 0 (fun gs_ => [⟨8, vPtr (kInt .i64), x.A⟩]) rfl (fun gs_ => l_ld (o_t rfl) ty3 (lt rfl)) (fun gs_ => .d 1 rfl rfl (.nil)) .n (fun _ => rfl) rfl (fun _ _ _ => rfl) (.x (f := fun gs_ => ⟨10, vBool, t1⟩) 0 (fun gs_ => [⟨7, (k_code_look).v, l⟩, ⟨9, vInt .i64, x.A⟩]) rfl (fun gs_ => l_call (ok54 l x.A _ h2) (.cons (o_t rfl) (.cons (o_t rfl) (.nil))) (lt rfl)) (fun gs_ => .d 0 rfl rfl (.d 2 rfl rfl (.nil))) .n (fun _ => rfl) rfl (fun _ _ _ => rfl) (.x (f := fun gs_ => ⟨11, vBool, t1⟩) 0 (fun gs_ => [⟨10, vBool, t1⟩]) rfl (fun gs_ => l_move (o_t rfl) (lt rfl)) (fun gs_ => .d 3 rfl rfl (.nil)) .n (fun _ => rfl) rfl (fun _ _ _ => rfl) (.n (fun gs_ => ⟨11, vBool, t1⟩) rfl (fun _ => rfl) (fun gs_ => .d 4 rfl rfl (.nil)) (fun _ => noy_b (b := true) hb3) (lt rfl) (.n (fun gs_ => ⟨11, vBool, t1⟩) rfl (fun _ => rfl) (fun gs_ => .d 4 rfl rfl (.nil)) (fun _ => noy_b (b := true) hb3) (lt rfl) (.n (fun gs_ => ⟨11, vBool, t1⟩) rfl (fun _ => rfl) (fun gs_ => .d 4 rfl rfl (.nil)) (fun _ => noy_b (b := true) hb3) (lt rfl) (.n (fun gs_ => ⟨11, vBool, t1⟩) rfl (fun _ => rfl) (fun gs_ => .d 4 rfl rfl (.nil)) (fun _ => noy_b (b := true) hb3) (lt rfl) (.x (f := fun gs_ => ⟨16, vBool, false⟩) 0 (fun gs_ => [⟨11, vBool, t1⟩]) rfl (fun gs_ => l_pickf (o_t rfl) hb3 (o_b) (lt rfl)) (fun gs_ => .d 4 rfl rfl (.nil)) .n (fun _ => rfl) rfl (fun _ _ _ => rfl) (.x (f := fun gs_ => ⟨17, vBool, false⟩) 0 (fun gs_ => [⟨16, vBool, false⟩]) rfl (fun gs_ => l_move (o_t rfl) (lt rfl)) (fun gs_ => .d 9 rfl rfl (.nil)) .n (fun _ => rfl) rfl (fun _ _ _ => rfl) (.n (fun gs_ => ⟨17, vBool, false⟩) rfl (fun _ => rfl) (fun gs_ => .d 10 rfl rfl (.nil)) (fun _ => noy_b (b := true) rfl) (lt rfl) (.n (fun gs_ => ⟨17, vBool, false⟩) rfl (fun _ => rfl) (fun gs_ => .d 10 rfl rfl (.nil)) (fun _ => noy_b (b := true) rfl) (lt rfl) (.n (fun gs_ => ⟨17, vBool, false⟩) rfl (fun _ => rfl) (fun gs_ => .d 10 rfl rfl (.nil)) (fun _ => noy_b (b := true) rfl) (lt rfl) (.n (fun gs_ => ⟨17, vBool, false⟩) rfl (fun _ => rfl) (fun gs_ => .d 10 rfl rfl (.nil)) (fun _ => noy_b (b := true) rfl) (lt rfl) (.n (fun gs_ => ⟨17, vBool, false⟩) rfl (fun _ => rfl) (fun gs_ => .d 10 rfl rfl (.nil)) (fun _ => noy_b (b := true) rfl) (lt rfl) (.n (fun gs_ => ⟨17, vBool, false⟩) rfl (fun _ => rfl) (fun gs_ => .d 10 rfl rfl (.nil)) (fun _ => noy_b (b := true) rfl) (lt rfl) (.n (fun gs_ => ⟨17, vBool, false⟩) rfl (fun _ => rfl) (fun gs_ => .d 10 rfl rfl (.nil)) (fun _ => noy_b (b := true) rfl) (lt rfl) (.n (fun gs_ => ⟨17, vBool, false⟩) rfl (fun _ => rfl) (fun gs_ => .d 10 rfl rfl (.nil)) (fun _ => noy_b (b := true) rfl) (lt rfl) (.n (fun gs_ => ⟨17, vBool, false⟩) rfl (fun _ => rfl) (fun gs_ => .d 10 rfl rfl (.nil)) (fun _ => noy_b (b := true) rfl) (lt rfl) (.n (fun gs_ => ⟨17, vBool, false⟩) rfl (fun _ => rfl) (fun gs_ => .d 10 rfl rfl (.nil)) (fun _ => noy_b (b := true) rfl) (lt rfl) (.n (fun gs_ => ⟨17, vBool, false⟩) rfl (fun _ => rfl) (fun gs_ => .d 10 rfl rfl (.nil)) (fun _ => noy_b (b := true) rfl) (lt rfl) (.n (fun gs_ => ⟨17, vBool, false⟩) rfl (fun _ => rfl) (fun gs_ => .d 10 rfl rfl (.nil)) (fun _ => noy_b (b := true) rfl) (lt rfl) (.x (f := fun gs_ => ⟨30, vBool, false⟩) 0 (fun gs_ => [⟨17, vBool, false⟩]) rfl (fun gs_ => l_pickf (o_t rfl) rfl (o_b) (lt rfl)) (fun gs_ => .d 10 rfl rfl (.nil)) .n (fun _ => rfl) rfl (fun _ _ _ => rfl) (.x (f := fun gs_ => ⟨6, vBool, false⟩) 0 (fun gs_ => [⟨30, vBool, false⟩]) rfl (fun gs_ => l_assign (o_t rfl) (lt rfl)) (fun gs_ => .d 23 rfl rfl (.nil)) .n (fun _ => rfl) rfl (fun _ _ _ => rfl) (.nil)))))))))))))))))))))))))) (fun gs_ hgs_ => ?_)
    refine k_seq ?_
    cases hp_
    exact t_ret (k_ret () rfl rfl rfl rfl rfl)
  · rw [if_pos hb3] at hp_
    obtain ⟨t4, h5, hp_⟩ := bs hp_
    rcases bt (t4) with hb6 | hb6
    · rw [if_neg (nt hb6)] at hp_
      refine t_draw [(0, fun gs_ => some ⟨7, (k_code_look).v, l⟩), (0, fun gs_ => some ⟨8, vPtr (kInt .i64), x.A⟩), (0, fun gs_ => some ⟨9, vInt .i64, x.A⟩), (0, fun gs_ => some ⟨10, vBool, t1⟩), (0, fun gs_ => some ⟨11, vBool, t1⟩), (0, fun gs_ => some ⟨12, (k_code_look).v, l⟩), (0, fun gs_ => some ⟨13, vPtr (kInt .i64), x.N⟩), (0, fun gs_ => some ⟨14, vInt .i64, x.N⟩), (0, fun gs_ => some ⟨15, vBool, t4⟩), (0, fun gs_ => some ⟨16, vBool, t4⟩), (0, fun gs_ => some ⟨17, vBool, t4⟩), (0, fun _ => some ⟨18, vUnd, ()⟩), (0, fun _ => some ⟨19, vUnd, ()⟩), (0, fun _ => some ⟨20, vUnd, ()⟩), (0, fun _ => some ⟨21, vUnd, ()⟩), (0, fun _ => some ⟨22, vUnd, ()⟩), (0, fun _ => some ⟨23, vUnd, ()⟩), (0, fun _ => some ⟨24, vUnd, ()⟩), (0, fun _ => some ⟨25, vUnd, ()⟩), (0, fun _ => some ⟨26, vUnd, ()⟩), (0, fun _ => some ⟨27, vUnd, ()⟩), (0, fun _ => some ⟨28, vUnd, ()⟩), (0, fun _ => some ⟨29, vUnd, ()⟩), (0, fun gs_ => some ⟨30, vBool, false⟩), (0, fun gs_ => some ⟨6, vBool, false⟩)] mixed rfl rfl (fun _ => []) [] rfl (.x (f := fun gs_ => ⟨7, (k_code_look).v, l⟩) 0 (fun gs_ => [⟨3, vPtr k_code_look, l⟩]) rfl (fun gs_ => l_ld (o_t rfl) ty51 (lt rfl)) (fun gs_ => .b rfl rfl (.nil)) .n (fun _ => rfl) rfl (fun _ _ _ => rfl) (.x (f := fun gs_ => ⟨8, vPtr (kInt .i64), x.A⟩) 0 (fun gs_ => [⟨4, vPtr k_aIns, x⟩]) rfl (fun gs_ => l_fa (o_t rfl) fl_aIns_2 fa75_2 (lt rfl)) (fun gs_ => .b rfl rfl (.nil)) .n (fun _ => rfl) rfl (fun _ _ _ => rfl) (.x (f := fun gs_ => ⟨9, vInt .i64, x.A⟩) 0 (fun gs_ => [⟨8, vPtr (kInt .i64), x.A⟩]) rfl (fun gs_ => l_ld (o_t rfl) ty3 (lt rfl)) (fun gs_ => .d 1 rfl rfl (.nil)) .n (fun _ => rfl) rfl (fun _ _ _ => rfl) (.x (f := fun gs_ => ⟨10, vBool, t1⟩) 0 (fun gs_ => [⟨7, (k_code_look).v, l⟩, ⟨9, vInt .i64, x.A⟩]) rfl (fun gs_ => l_call (ok54 l x.A _ h2) (.cons (o_t rfl) (.cons (o_t rfl) (.nil))) (lt rfl)) (fun gs_ => .d 0 rfl rfl (.d 2 rfl rfl (.nil))) .n (fun _ => rfl) rfl (fun _ _ _ => rfl) (.x (f := fun gs_ => ⟨11, vBool, t1⟩) 0 (fun gs_ => [⟨10, vBool, t1⟩]) rfl (fun gs_ => l_move (o_t rfl) (lt rfl)) (fun gs_ => .d 3 rfl rfl (.nil)) .n (fun _ => rfl) rfl (fun _ _ _ => rfl) (.x (f := fun gs_ => ⟨12, (k_code_look).v, l⟩) 0 (fun gs_ => [⟨3, vPtr k_code_look, l⟩]) rfl (fun gs_ => l_ld (o_t rfl) ty51 (lt rfl)) (fun gs_ => .b rfl rfl (.nil)) (.s rfl (fun gs_ => .d 4 rfl rfl (.nil)) hb3) (fun _ => rfl) rfl (fun _ _ _ => rfl) (.x (f := fun gs_ => ⟨13, vPtr (kInt .i64), x.N⟩) 0 (fun gs_ => [⟨4, vPtr k_aIns, x⟩]) rfl (fun gs_ => l_fa (o_t rfl) fl_aIns_4 fa75_4 (lt rfl)) (fun gs_ => .b rfl rfl (.nil)) (.s rfl (fun gs_ => .d 4 rfl rfl (.nil)) hb3) (fun _ => rfl) rfl (fun _ _ _ => rfl) (.x (f := fun gs_ => ⟨14, vInt .i64, x.N⟩) 0 (fun gs_ => [⟨13, vPtr (kInt .i64), x.N⟩]) rfl (fun gs_ => l_ld (o_t rfl) ty3 (lt rfl)) (fun gs_ => .d 6 rfl rfl (.nil)) (.s rfl (fun gs_ => .d 4 rfl rfl (.nil)) hb3) (fun _ => rfl) rfl (fun _ _ _ => rfl) (.x (f := fun gs_ => ⟨15, vBool, t4⟩) 0 (fun gs_ => [⟨12, (k_code_look).v, l⟩, ⟨14, vInt .i64, x.N⟩]) rfl (fun gs_ => l_call (ok90 l x.N (3 : Int) _ h5) (.cons (o_t rfl) (.cons (o_t rfl) (.cons (o_i) (.nil)))) (lt rfl)) (fun gs_ => .d 5 rfl rfl (.d 7 rfl rfl (.nil))) (.s rfl (fun gs_ => .d 4 rfl rfl (.nil)) hb3) (fun _ => rfl) rfl (fun _ _ _ => rfl) (.x (f := fun gs_ => ⟨16, vBool, t4⟩) 0 (fun gs_ => [⟨11, vBool, t1⟩, ⟨15, vBool, t4⟩]) rfl (fun gs_ => l_pickt (o_t rfl) hb3 (o_t rfl) (lt rfl)) (fun gs_ => .d 4 rfl rfl (.d 8 rfl rfl (.nil))) .n (fun _ => rfl) rfl (fun _ _ _ => rfl) (.x (f := fun gs_ => ⟨17, vBool, t4⟩) 0 (fun gs_ => [⟨16, vBool, t4⟩]) rfl (fun gs_ => l_move (o_t rfl) (lt rfl)) (fun gs_ => .d 9 rfl rfl (.nil)) .n (fun _ => rfl) rfl (fun _ _ _ => rfl) (.n (fun gs_ => ⟨17, vBool, t4⟩) rfl (fun _ => rfl) (fun gs_ => .d 10 rfl rfl (.nil)) (fun _ => noy_b (b := true) hb6) (lt rfl) (.n (fun gs_ => ⟨17, vBool, t4⟩) rfl (fun _ => rfl) (fun gs_ => .d 10 rfl rfl (.nil)) (fun _ => noy_b (b := true) hb6) (lt rfl) (.n (fun gs_ => ⟨17, vBool, t4⟩) rfl (fun _ => rfl) (fun gs_ => .d 10 rfl rfl (.nil)) (fun _ => noy_b (b := true) hb6) (lt rfl) (.n (fun gs_ => ⟨17, vBool, t4⟩) rfl (fun _ => rfl) (fun gs_ => .d 10 rfl rfl (.nil)) (fun _ => noy_b (b := true) hb6) (lt rfl) (.n (fun gs_ => ⟨17, vBool, t4⟩) rfl (fun _ => rfl) (fun gs_ => .d 10 rfl rfl (.nil)) (fun _ => noy_b (b := true) hb6) (lt rfl) (.n (fun gs_ => ⟨17, vBool, t4⟩) rfl (fun _ => rfl) (fun gs_ => .d 10 rfl rfl (.nil)) (fun _ => noy_b (b := true) hb6) (lt rfl) (.n (fun gs_ => ⟨17, vBool, t4⟩) rfl (fun _ => rfl) (fun gs_ => .d 10 rfl rfl (.nil)) (fun _ => noy_b (b := true) hb6) (lt rfl) (.n (fun gs_ => ⟨17, vBool, t4⟩) rfl (fun _ => rfl) (fun gs_ => .d 10 rfl rfl (.nil)) (fun _ => noy_b (b := true) hb6) (lt rfl) (.n (fun gs_ => ⟨17, vBool, t4⟩) rfl (fun _ => rfl) (fun gs_ => .d 10 rfl rfl (.nil)) (fun _ => noy_b (b := true) hb6) (lt rfl) (.n (fun gs_ => ⟨17, vBool, t4⟩) rfl (fun _ => rfl) (fun gs_ => .d 10 rfl rfl (.nil)) (fun _ => noy_b (b := true) hb6) (lt rfl) (.n (fun gs_ => ⟨17, vBool, t4⟩) rfl (fun _ => rfl) (fun gs_ => .d 10 rfl rfl (.nil)) (fun _ => noy_b (b := true) hb6) (lt rfl) (.n (fun gs_ => ⟨17, vBool, t4⟩) rfl (fun _ => rfl) (fun gs_ => .d 10 rfl rfl (.nil)) (fun _ => noy_b (b := true) hb6) (lt rfl) (.x (f := fun gs_ => ⟨30, vBool, false⟩) 0 (fun gs_ => [⟨17, vBool, t4⟩]) rfl (fun gs_ => l_pickf (o_t rfl) hb6 (o_b) (lt rfl)) (fun gs_ => .d 10 rfl rfl (.nil)) .n (fun _ => rfl) rfl (fun _ _ _ => rfl) (.x (f := fun gs_ => ⟨6, vBool, false⟩) 0 (fun gs_ => [⟨30, vBool, false⟩]) rfl (fun gs_ => l_assign (o_t rfl) (lt rfl)) (fun gs_ => .d 23 rfl rfl (.nil)) .n (fun _ => rfl) rfl (fun _ _ _ => rfl) (.nil)))))))))))))))))))))))))) (fun gs_ hgs_ => ?_)
      refine k_seq ?_
      cases hp_
      exact t_ret (k_ret () rfl rfl rfl rfl rfl)
    · rw [if_pos hb6] at hp_
      obtain ⟨t7, h8, hp_⟩ := bs hp_
      obtain ⟨t9, h10, hp_⟩ := bs hp_
      refine t_draw [(0, fun gs_ => some ⟨7, (k_code_look).v, l⟩), (0, fun gs_ => some ⟨8, vPtr (kInt .i64), x.A⟩), (0, fun gs_ => some ⟨9, vInt .i64, x.A⟩), (0, fun gs_ => some ⟨10, vBool, t1⟩), (0, fun gs_ => some ⟨11, vBool, t1⟩), (0, fun gs_ => some ⟨12, (k_code_look).v, l⟩), (0, fun gs_ => some ⟨13, vPtr (kInt .i64), x.N⟩), (0, fun gs_ => some ⟨14, vInt .i64, x.N⟩), (0, fun gs_ => some ⟨15, vBool, t4⟩), (0, fun gs_ => some ⟨16, vBool, t4⟩), (0, fun gs_ => some ⟨17, vBool, t4⟩), (0, fun gs_ => some ⟨18, (k_code_look).v, l⟩), (0, fun gs_ => some ⟨19, vPtr (kInt .i64), x.B⟩), (0, fun gs_ => some ⟨20, vInt .i64, x.B⟩), (0, fun gs_ => some ⟨21, vPtr k_aCode, l.c⟩), (0, fun gs_ => some ⟨22, vPtr (kSlice k_aArr), l.c.Arrays⟩), (0, fun gs_ => some ⟨23, vSlice k_aArr, l.c.Arrays⟩), (0, fun gs_ => some ⟨24, vPtr (kInt .i64), x.N⟩), (0, fun gs_ => some ⟨25, vInt .i64, x.N⟩), (0, fun gs_ => some ⟨26, vPtr k_aArr, t7⟩), (0, fun gs_ => some ⟨27, vPtr (kInt .i64), t7.W⟩), (0, fun gs_ => some ⟨28, vInt .i64, t7.W⟩), (0, fun gs_ => some ⟨29, vBool, t9⟩), (0, fun gs_ => some ⟨30, vBool, t9⟩), (0, fun gs_ => some ⟨6, vBool, t9⟩)] mixed rfl rfl (fun _ => []) [] rfl (.x (f := fun gs_ => ⟨7, (k_code_look).v, l⟩) 0 (fun gs_ => [⟨3, vPtr k_code_look, l⟩]) rfl (fun gs_ => l_ld (o_t rfl) ty51 (lt rfl)) (fun gs_ => .b rfl rfl (.nil)) .n (fun _ => rfl) rfl (fun _ _ _ => rfl) (.x (f := fun gs_ => ⟨8, vPtr (kInt .i64), x.A⟩) 0 (fun gs_ => [⟨4, vPtr k_aIns, x⟩]) rfl (fun gs_ => l_fa (o_t rfl) fl_aIns_2 fa75_2 (lt rfl)) (fun gs_ => .b rfl rfl (.nil)) .n (fun _ => rfl) rfl (fun _ _ _ => rfl) (.x (f := fun gs_ => ⟨9, vInt .i64, x.A⟩) 0 (fun gs_ => [⟨8, vPtr (kInt .i64), x.A⟩]) rfl (fun gs_ => l_ld (o_t rfl) ty3 (lt rfl)) (fun gs_ => .d 1 rfl rfl (.nil)) .n (fun _ => rfl) rfl (fun _ _ _ => rfl) (.x (f := fun gs_ => ⟨10, vBool, t1⟩) 0 (fun gs_ => [⟨7, (k_code_look).v, l⟩, ⟨9, vInt .i64, x.A⟩]) rfl (fun gs_ => l_call (ok54 l x.A _ h2) (.cons (o_t rfl) (.cons (o_t rfl) (.nil))) (lt rfl)) (fun gs_ => .d 0 rfl rfl (.d 2 rfl rfl (.nil))) .n (fun _ => rfl) rfl (fun _ _ _ => rfl) (.x (f := fun gs_ => ⟨11, vBool, t1⟩) 0 (fun gs_ => [⟨10, vBool, t1⟩]) rfl (fun gs_ => l_move (o_t rfl) (lt rfl)) (fun gs_ => .d 3 rfl rfl (.nil)) .n (fun _ => rfl) rfl (fun _ _ _ => rfl) (.x (f := fun gs_ => ⟨12, (k_code_look).v, l⟩) 0 (fun gs_ => [⟨3, vPtr k_code_look, l⟩]) rfl (fun gs_ => l_ld (o_t rfl) ty51 (lt rfl)) (fun gs_ => .b rfl rfl (.nil)) (.s rfl (fun gs_ => .d 4 rfl rfl (.nil)) hb3) (fun _ => rfl) rfl (fun _ _ _ => rfl) (.x (f := fun gs_ => ⟨13, vPtr (kInt .i64), x.N⟩) 0 (fun gs_ => [⟨4, vPtr k_aIns, x⟩]) rfl (fun gs_ => l_fa (o_t rfl) fl_aIns_4 fa75_4 (lt rfl)) (fun gs_ => .b rfl rfl (.nil)) (.s rfl (fun gs_ => .d 4 rfl rfl (.nil)) hb3) (fun _ => rfl) rfl (fun _ _ _ => rfl) (.x (f := fun gs_ => ⟨14, vInt .i64, x.N⟩) 0 (fun gs_ => [⟨13, vPtr (kInt .i64), x.N⟩]) rfl (fun gs_ => l_ld (o_t rfl) ty3 (lt rfl)) (fun gs_ => .d 6 rfl rfl (.nil)) (.s rfl (fun gs_ => .d 4 rfl rfl (.nil)) hb3) (fun _ => rfl) rfl (fun _ _ _ => rfl) (.x (f := fun gs_ => ⟨15, vBool, t4⟩) 0 (fun gs_ => [⟨12, (k_code_look).v, l⟩, ⟨14, vInt .i64, x.N⟩]) rfl (fun gs_ => l_call (ok90 l x.N (3 : Int) _ h5) (.cons (o_t rfl) (.cons (o_t rfl) (.cons (o_i) (.nil)))) (lt rfl)) (fun gs_ => .d 5 rfl rfl (.d 7 rfl rfl (.nil))) (.s rfl (fun gs_ => .d 4 rfl rfl (.nil)) hb3) (fun _ => rfl) rfl (fun _ _ _ => rfl) (.x (f := fun gs_ => ⟨16, vBool, t4⟩) 0 (fun gs_ => [⟨11, vBool, t1⟩, ⟨15, vBool, t4⟩]) rfl (fun gs_ => l_pickt (o_t rfl) hb3 (o_t rfl) (lt rfl)) (fun gs_ => .d 4 rfl rfl (.d 8 rfl rfl (.nil))) .n (fun _ => rfl) rfl (fun _ _ _ => rfl) (.x (f := fun gs_ => ⟨17, vBool, t4⟩) 0 (fun gs_ => [⟨16, vBool, t4⟩]) rfl (fun gs_ => l_move (o_t rfl) (lt rfl)) (fun gs_ => .d 9 rfl rfl (.nil)) .n (fun _ => rfl) rfl (fun _ _ _ => rfl) (.x (f := fun gs_ => ⟨18, (k_code_look).v, l⟩) 0 (fun gs_ => [⟨3, vPtr k_code_look, l⟩]) rfl (fun gs_ => l_ld (o_t rfl) ty51 (lt rfl)) (fun gs_ => .b rfl rfl (.nil)) (.s rfl (fun gs_ => .d 10 rfl rfl (.nil)) hb6) (fun _ => rfl) rfl (fun _ _ _ => rfl) (.x (f := fun gs_ => ⟨19, vPtr (kInt .i64), x.B⟩) 0 (fun gs_ => [⟨4, vPtr k_aIns, x⟩]) rfl (fun gs_ => l_fa (o_t rfl) fl_aIns_3 fa75_3 (lt rfl)) (fun gs_ => .b rfl rfl (.nil)) (.s rfl (fun gs_ => .d 10 rfl rfl (.nil)) hb6) (fun _ => rfl) rfl (fun _ _ _ => rfl) (.x (f := fun gs_ => ⟨20, vInt .i64, x.B⟩) 0 (fun gs_ => [⟨19, vPtr (kInt .i64), x.B⟩]) rfl (fun gs_ => l_ld (o_t rfl) ty3 (lt rfl)) (fun gs_ => .d 12 rfl rfl (.nil)) (.s rfl (fun gs_ => .d 10 rfl rfl (.nil)) hb6) (fun _ => rfl) rfl (fun _ _ _ => rfl) (.x (f := fun gs_ => ⟨21, vPtr k_aCode, l.c⟩) 0 (fun gs_ => [⟨3, vPtr k_code_look, l⟩]) rfl (fun gs_ => l_fa (o_t rfl) fl_code_look_0 fa51_0 (lt rfl)) (fun gs_ => .b rfl rfl (.nil)) (.s rfl (fun gs_ => .d 10 rfl rfl (.nil)) hb6) (fun _ => rfl) rfl (fun _ _ _ => rfl) (.x (f := fun gs_ => ⟨22, vPtr (kSlice k_aArr), l.c.Arrays⟩) 0 (fun gs_ => [⟨21, vPtr k_aCode, l.c⟩]) rfl (fun gs_ => l_fa (o_t rfl) fl_aCode_8 fa30_8 (lt rfl)) (fun gs_ => .d 14 rfl rfl (.nil)) (.s rfl (fun gs_ => .d 10 rfl rfl (.nil)) hb6) (fun _ => rfl) rfl (fun _ _ _ => rfl) (.x (f := fun gs_ => ⟨23, vSlice k_aArr, l.c.Arrays⟩) 0 (fun gs_ => [⟨22, vPtr (kSlice k_aArr), l.c.Arrays⟩]) rfl (fun gs_ => l_ld (o_t rfl) ty28 (lt rfl)) (fun gs_ => .d 15 rfl rfl (.nil)) (.s rfl (fun gs_ => .d 10 rfl rfl (.nil)) hb6) (fun _ => rfl) rfl (fun _ _ _ => rfl) (.x (f := fun gs_ => ⟨24, vPtr (kInt .i64), x.N⟩) 0 (fun gs_ => [⟨4, vPtr k_aIns, x⟩]) rfl (fun gs_ => l_fa (o_t rfl) fl_aIns_4 fa75_4 (lt rfl)) (fun gs_ => .b rfl rfl (.nil)) (.s rfl (fun gs_ => .d 10 rfl rfl (.nil)) hb6) (fun _ => rfl) rfl (fun _ _ _ => rfl) (.x (f := fun gs_ => ⟨25, vInt .i64, x.N⟩) 0 (fun gs_ => [⟨24, vPtr (kInt .i64), x.N⟩]) rfl (fun gs_ => l_ld (o_t rfl) ty3 (lt rfl)) (fun gs_ => .d 17 rfl rfl (.nil)) (.s rfl (fun gs_ => .d 10 rfl rfl (.nil)) hb6) (fun _ => rfl) rfl (fun _ _ _ => rfl) (.x (f := fun gs_ => ⟨26, vPtr k_aArr, t7⟩) 0 (fun gs_ => [⟨23, vSlice k_aArr, l.c.Arrays⟩, ⟨25, vInt .i64, x.N⟩]) rfl (fun gs_ => l_ia (o_t rfl) (o_t rfl) h8 sl28 sz59 (lt rfl)) (fun gs_ => .d 16 rfl rfl (.d 18 rfl rfl (.nil))) (.s rfl (fun gs_ => .d 10 rfl rfl (.nil)) hb6) (fun _ => rfl) rfl (fun _ _ _ => rfl) (.x (f := fun gs_ => ⟨27, vPtr (kInt .i64), t7.W⟩) 0 (fun gs_ => [⟨26, vPtr k_aArr, t7⟩]) rfl (fun gs_ => l_fa (o_t rfl) fl_aArr_2 fa59_2 (lt rfl)) (fun gs_ => .d 19 rfl rfl (.nil)) (.s rfl (fun gs_ => .d 10 rfl rfl (.nil)) hb6) (fun _ => rfl) rfl (fun _ _ _ => rfl) (.x (f := fun gs_ => ⟨28, vInt .i64, t7.W⟩) 0 (fun gs_ => [⟨27, vPtr (kInt .i64), t7.W⟩]) rfl (fun gs_ => l_ld (o_t rfl) ty3 (lt rfl)) (fun gs_ => .d 20 rfl rfl (.nil)) (.s rfl (fun gs_ => .d 10 rfl rfl (.nil)) hb6) (fun _ => rfl) rfl (fun _ _ _ => rfl) (.x (f := fun gs_ => ⟨29, vBool, t9⟩) 0 (fun gs_ => [⟨18, (k_code_look).v, l⟩, ⟨20, vInt .i64, x.B⟩, ⟨28, vInt .i64, t7.W⟩]) rfl (fun gs_ => l_call (ok45 l x.B t7.W _ h10) (.cons (o_t rfl) (.cons (o_t rfl) (.cons (o_t rfl) (.nil)))) (lt rfl)) (fun gs_ => .d 11 rfl rfl (.d 13 rfl rfl (.d 21 rfl rfl (.nil)))) (.s rfl (fun gs_ => .d 10 rfl rfl (.nil)) hb6) (fun _ => rfl) rfl (fun _ _ _ => rfl) (.x (f := fun gs_ => ⟨30, vBool, t9⟩) 0 (fun gs_ => [⟨17, vBool, t4⟩, ⟨29, vBool, t9⟩]) rfl (fun gs_ => l_pickt (o_t rfl) hb6 (o_t rfl) (lt rfl)) (fun gs_ => .d 10 rfl rfl (.d 22 rfl rfl (.nil))) .n (fun _ => rfl) rfl (fun _ _ _ => rfl) (.x (f := fun gs_ => ⟨6, vBool, t9⟩) 0 (fun gs_ => [⟨30, vBool, t9⟩]) rfl (fun gs_ => l_assign (o_t rfl) (lt rfl)) (fun gs_ => .d 23 rfl rfl (.nil)) .n (fun _ => rfl) rfl (fun _ _ _ => rfl) (.nil)))))))))))))))))))))))))) (fun gs_ hgs_ => ?_)
      refine k_seq ?_
      cases hp_
      exact t_ret (k_ret () rfl rfl rfl rfl rfl)
-- pointsman/code.rows$10
theorem ok93 (l : code_look) (x : aIns) (p2 : code_place) (y_ : Bool) (hp_ : code_rows_10 l x p2 = some y_) : FP Tryz.prog 93 [⟨(k_code_look).v, l⟩, ⟨(k_aIns).v, x⟩, ⟨(k_code_place).v, p2⟩] vBool y_ := by
  unfold code_rows_10 at hp_
  refine fc_of 23 Tryz.func93 rfl fn93 rfl (Nat.le_of_ble_eq_true rfl) fun I_ w_ F_ => ?_
  refine t_seq ?_
  refine t_reg ?_
  refine st (l_box (o_t rfl) (lt rfl)) ?_
  refine st (l_box (o_t rfl) (lt rfl)) ?_
  refine st (l_box (o_t rfl) (lt rfl)) ?_
  refine st (l_assign (o_b) (lt rfl)) ?_
  refine r_nil (k_seq ?_)
  refine t_seq ?_
  refine t_reg ?_
  refine st (l_ld (o_t rfl) ty51 (lt rfl)) ?_
  refine st (l_fa (o_t rfl) fl_aIns_2 fa75_2 (lt rfl)) ?_
  refine st (l_ld (o_t rfl) ty3 (lt rfl)) ?_
  obtain ⟨t1, h2, hp_⟩ := bs hp_
  refine st (l_call (ok54 l x.A _ h2) (.cons (o_t rfl) (.cons (o_t rfl) (.nil))) (lt rfl)) ?_
  refine st (l_move (o_t rfl) (lt rfl)) ?_
  rcases bt (t1) with hb3 | hb3
  · rw [if_neg (nt hb3)] at hp_
    refine g_n ⟨11, vBool, t1⟩ rfl rfl (noy_b (b := true) hb3) (lt rfl) ?_
    refine g_n ⟨11, vBool, t1⟩ rfl rfl (noy_b (b := true) hb3) (lt rfl) ?_
    refine g_n ⟨11, vBool, t1⟩ rfl rfl (noy_b (b := true) hb3) (lt rfl) ?_
    refine g_n ⟨11, vBool, t1⟩ rfl rfl (noy_b (b := true) hb3) (lt rfl) ?_
    refine st (l_pickf (o_t rfl) hb3 (o_b) (lt rfl)) ?_
    refine st (l_move (o_t rfl) (lt rfl)) ?_
    refine g_n ⟨17, vBool, false⟩ rfl rfl (noy_b (b := true) rfl) (lt rfl) ?_
    refine g_n ⟨17, vBool, false⟩ rfl rfl (noy_b (b := true) rfl) (lt rfl) ?_
    refine g_n ⟨17, vBool, false⟩ rfl rfl (noy_b (b := true) rfl) (lt rfl) ?_
    refine g_n ⟨17, vBool, false⟩ rfl rfl (noy_b (b := true) rfl) (lt rfl) ?_
    refine st (l_pickf (o_t rfl) rfl (o_b) (lt rfl)) ?_
    refine st (l_assign (o_t rfl) (lt rfl)) ?_
    refine r_nil (k_seq ?_)
    cases hp_
    exact t_ret (k_ret () rfl rfl rfl rfl rfl)
  · rw [if_pos hb3] at hp_
    refine g_t rfl rfl hb3 ?_
    refine st (l_ld (o_t rfl) ty51 (lt rfl)) ?_
    refine g_t rfl rfl hb3 ?_
    refine st (l_fa (o_t rfl) fl_aIns_4 fa75_4 (lt rfl)) ?_
    refine g_t rfl rfl hb3 ?_
    refine st (l_ld (o_t rfl) ty3 (lt rfl)) ?_
    refine g_t rfl rfl hb3 ?_
    obtain ⟨t4, h5, hp_⟩ := bs hp_
    refine st (l_call (ok90 l x.N (5 : Int) _ h5) (.cons (o_t rfl) (.cons (o_t rfl) (.cons (o_i) (.nil)))) (lt rfl)) ?_
    refine st (l_pickt (o_t rfl) hb3 (o_t rfl) (lt rfl)) ?_
    refine st (l_move (o_t rfl) (lt rfl)) ?_
    rcases bt (t4) with hb6 | hb6
    · rw [if_neg (nt hb6)] at hp_
      refine g_n ⟨17, vBool, t4⟩ rfl rfl (noy_b (b := true) hb6) (lt rfl) ?_
      refine g_n ⟨17, vBool, t4⟩ rfl rfl (noy_b (b := true) hb6) (lt rfl) ?_
      refine g_n ⟨17, vBool, t4⟩ rfl rfl (noy_b (b := true) hb6) (lt rfl) ?_
      refine g_n ⟨17, vBool, t4⟩ rfl rfl (noy_b (b := true) hb6) (lt rfl) ?_
      refine st (l_pickf (o_t rfl) hb6 (o_b) (lt rfl)) ?_
      refine st (l_assign (o_t rfl) (lt rfl)) ?_
      refine r_nil (k_seq ?_)
      cases hp_
      exact t_ret (k_ret () rfl rfl rfl rfl rfl)
    · rw [if_pos hb6] at hp_
      refine g_t rfl rfl hb6 ?_
      refine st (l_ld (o_t rfl) ty51 (lt rfl)) ?_
      refine g_t rfl rfl hb6 ?_
      refine st (l_fa (o_t rfl) fl_aIns_1 fa75_1 (lt rfl)) ?_
      refine g_t rfl rfl hb6 ?_
      refine st (l_ld (o_t rfl) ty3 (lt rfl)) ?_
      refine g_t rfl rfl hb6 ?_
      obtain ⟨t7, h8, hp_⟩ := bs hp_
      refine st (l_call (ok45 l x.To (1 : Int) _ h8) (.cons (o_t rfl) (.cons (o_t rfl) (.cons (o_i) (.nil)))) (lt rfl)) ?_
      refine st (l_pickt (o_t rfl) hb6 (o_t rfl) (lt rfl)) ?_
      refine st (l_assign (o_t rfl) (lt rfl)) ?_
      refine r_nil (k_seq ?_)
      cases hp_
      exact t_ret (k_ret () rfl rfl rfl rfl rfl)
-- pointsman/code.rows$11
theorem ok94 (l : code_look) (x : aIns) (p2 : code_place) (y_ : Bool) (hp_ : code_rows_11 l x p2 = some y_) : FP Tryz.prog 94 [⟨(k_code_look).v, l⟩, ⟨(k_aIns).v, x⟩, ⟨(k_code_place).v, p2⟩] vBool y_ := by
  unfold code_rows_11 at hp_
  refine fc_of 11 Tryz.func94 rfl fn94 rfl (Nat.le_of_ble_eq_true rfl) fun I_ w_ F_ => ?_
  refine t_seq ?_
  refine t_reg ?_
  refine st (l_box (o_t rfl) (lt rfl)) ?_
  refine st (l_box (o_t rfl) (lt rfl)) ?_
  refine st (l_box (o_t rfl) (lt rfl)) ?_
  refine st (l_assign (o_b) (lt rfl)) ?_
  refine r_nil (k_seq ?_)
  refine t_seq ?_
  refine t_reg ?_
  refine st (l_ld (o_t rfl) ty51 (lt rfl)) ?_
  refine st (l_fa (o_t rfl) fl_aIns_1 fa75_1 (lt rfl)) ?_
  refine st (l_ld (o_t rfl) ty3 (lt rfl)) ?_
  obtain ⟨t1, h2, hp_⟩ := bs hp_
  refine st (l_call (ok54 l x.To _ h2) (.cons (o_t rfl) (.cons (o_t rfl) (.nil))) (lt rfl)) ?_
  refine st (l_assign (o_t rfl) (lt rfl)) ?_
  refine r_nil (k_seq ?_)
  cases hp_
  exact t_ret (k_ret () rfl rfl rfl rfl rfl)
-- pointsman/code.yes
theorem ok95 (p0 : code_look) (p1 : aIns) (p2 : code_place) (y_ : Bool) (hp_ : code_yes p0 p1 p2 = some y_) : FP Tryz.prog 95 [⟨(k_code_look).v, p0⟩, ⟨(k_aIns).v, p1⟩, ⟨(k_code_place).v, p2⟩] vBool y_ := by
  unfold code_yes at hp_
  refine fc_of 7 Tryz.func95 rfl fn95 rfl (Nat.le_of_ble_eq_true rfl) fun I_ w_ F_ => ?_
  refine t_seq ?_
  refine t_reg ?_
  refine st (l_box (o_t rfl) (lt rfl)) ?_
  refine st (l_box (o_t rfl) (lt rfl)) ?_
  refine st (l_box (o_t rfl) (lt rfl)) ?_
  refine st (l_assign (o_b) (lt rfl)) ?_
  refine r_nil (k_seq ?_)
  refine t_seq ?_
  refine t_reg ?_
  refine st (l_assign (o_b) (lt rfl)) ?_
  refine r_nil (k_seq ?_)
  cases hp_
  exact t_ret (k_ret () rfl rfl rfl rfl rfl)
-- pointsman/code.rows$12
theorem ok96 (l : code_look) (x : aIns) (p2 : code_place) (y_ : Bool) (hp_ : code_rows_12 l x p2 = some y_) : FP Tryz.prog 96 [⟨(k_code_look).v, l⟩, ⟨(k_aIns).v, x⟩, ⟨(k_code_place).v, p2⟩] vBool y_ := by
  unfold code_rows_12 at hp_
  refine fc_of 23 Tryz.func96 rfl fn96 rfl (Nat.le_of_ble_eq_true rfl) fun I_ w_ F_ => ?_
  refine t_seq ?_
  refine t_reg ?_
  refine st (l_box (o_t rfl) (lt rfl)) ?_
  refine st (l_box (o_t rfl) (lt rfl)) ?_
  refine st (l_box (o_t rfl) (lt rfl)) ?_
  refine st (l_assign (o_b) (lt rfl)) ?_
  refine r_nil (k_seq ?_)
  refine t_seq ?_
  refine t_reg ?_
  refine st (l_fa (o_t rfl) fl_aIns_6 fa75_6 (lt rfl)) ?_
  refine st (l_ld (o_t rfl) ty22 (lt rfl)) ?_
  refine st (l_lens (o_t rfl) sl22 (lt rfl)) ?_
  refine st (l_cmp (o_t rfl) (o_i) .geq (lt rfl)) ?_
  refine st (l_move (o_t rfl) (lt rfl)) ?_
  rcases bt (decide ((x.L.length : Int) ≥ (1 : Int))) with hb1 | hb1
  · rw [if_neg (nt hb1)] at hp_
    refine g_n ⟨11, vBool, decide ((x.L.length : Int) ≥ (1 : Int))⟩ rfl rfl (noy_b (b := true) hb1) (lt rfl) ?_
    refine g_n ⟨11, vBool, decide ((x.L.length : Int) ≥ (1 : Int))⟩ rfl rfl (noy_b (b := true) hb1) (lt rfl) ?_
    refine g_n ⟨11, vBool, decide ((x.L.length : Int) ≥ (1 : Int))⟩ rfl rfl (noy_b (b := true) hb1) (lt rfl) ?_
    refine g_n ⟨11, vBool, decide ((x.L.length : Int) ≥ (1 : Int))⟩ rfl rfl (noy_b (b := true) hb1) (lt rfl) ?_
    refine st (l_pickf (o_t rfl) hb1 (o_b) (lt rfl)) ?_
    refine st (l_move (o_t rfl) (lt rfl)) ?_
    refine g_n ⟨17, vBool, false⟩ rfl rfl (noy_b (b := true) rfl) (lt rfl) ?_
    refine g_n ⟨17, vBool, false⟩ rfl rfl (noy_b (b := true) rfl) (lt rfl) ?_
    refine g_n ⟨17, vBool, false⟩ rfl rfl (noy_b (b := true) rfl) (lt rfl) ?_
    refine g_n ⟨17, vBool, false⟩ rfl rfl (noy_b (b := true) rfl) (lt rfl) ?_
    refine st (l_pickf (o_t rfl) rfl (o_b) (lt rfl)) ?_
    refine st (l_assign (o_t rfl) (lt rfl)) ?_
    refine r_nil (k_seq ?_)
    cases hp_
    exact t_ret (k_ret () rfl rfl rfl rfl rfl)
  · rw [if_pos hb1] at hp_
    refine g_t rfl rfl hb1 ?_
    refine st (l_fa (o_t rfl) fl_aIns_6 fa75_6 (lt rfl)) ?_
    refine g_t rfl rfl hb1 ?_
    refine st (l_ld (o_t rfl) ty22 (lt rfl)) ?_
    refine g_t rfl rfl hb1 ?_
    refine st (l_lens (o_t rfl) sl22 (lt rfl)) ?_
    refine g_t rfl rfl hb1 ?_
    refine st (l_cmp (o_t rfl) (o_i) .leq (lt rfl)) ?_
    refine st (l_pickt (o_t rfl) hb1 (o_t rfl) (lt rfl)) ?_
    refine st (l_move (o_t rfl) (lt rfl)) ?_
    rcases bt (decide ((x.L.length : Int) ≤ (64 : Int))) with hb2 | hb2
    · rw [if_neg (nt hb2)] at hp_
      refine g_n ⟨17, vBool, decide ((x.L.length : Int) ≤ (64 : Int))⟩ rfl rfl (noy_b (b := true) hb2) (lt rfl) ?_
      refine g_n ⟨17, vBool, decide ((x.L.length : Int) ≤ (64 : Int))⟩ rfl rfl (noy_b (b := true) hb2) (lt rfl) ?_
      refine g_n ⟨17, vBool, decide ((x.L.length : Int) ≤ (64 : Int))⟩ rfl rfl (noy_b (b := true) hb2) (lt rfl) ?_
      refine g_n ⟨17, vBool, decide ((x.L.length : Int) ≤ (64 : Int))⟩ rfl rfl (noy_b (b := true) hb2) (lt rfl) ?_
      refine st (l_pickf (o_t rfl) hb2 (o_b) (lt rfl)) ?_
      refine st (l_assign (o_t rfl) (lt rfl)) ?_
      refine r_nil (k_seq ?_)
      cases hp_
      exact t_ret (k_ret () rfl rfl rfl rfl rfl)
    · rw [if_pos hb2] at hp_
      refine g_t rfl rfl hb2 ?_
      refine st (l_ld (o_t rfl) ty51 (lt rfl)) ?_
      refine g_t rfl rfl hb2 ?_
      refine st (l_fa (o_t rfl) fl_aIns_6 fa75_6 (lt rfl)) ?_
      refine g_t rfl rfl hb2 ?_
      refine st (l_ld (o_t rfl) ty22 (lt rfl)) ?_
      refine g_t rfl rfl hb2 ?_
      obtain ⟨t3, h4, hp_⟩ := bs hp_
      refine st (l_call (ok59 l x.L _ h4) (.cons (o_t rfl) (.cons (o_t rfl) (.nil))) (lt rfl)) ?_
      refine st (l_pickt (o_t rfl) hb2 (o_t rfl) (lt rfl)) ?_
      refine st (l_assign (o_t rfl) (lt rfl)) ?_
      refine r_nil (k_seq ?_)
      cases hp_
      exact t_ret (k_ret () rfl rfl rfl rfl rfl)
-- pointsman/code.rows$13
theorem ok97 (l : code_look) (x : aIns) (p2 : code_place) (y_ : Bool) (hp_ : code_rows_13 l x p2 = some y_) : FP Tryz.prog 97 [⟨(k_code_look).v, l⟩, ⟨(k_aIns).v, x⟩, ⟨(k_code_place).v, p2⟩] vBool y_ := by
  unfold code_rows_13 at hp_
  refine fc_of 10 Tryz.func97 rfl fn97 rfl (Nat.le_of_ble_eq_true rfl) fun I_ w_ F_ => ?_
  refine t_seq ?_
  refine t_reg ?_
  refine st (l_box (o_t rfl) (lt rfl)) ?_
  refine st (l_box (o_t rfl) (lt rfl)) ?_
  refine st (l_box (o_t rfl) (lt rfl)) ?_
  refine st (l_assign (o_b) (lt rfl)) ?_
  refine r_nil (k_seq ?_)
  refine t_seq ?_
  refine t_reg ?_
  refine st (l_fa (o_t rfl) fl_aIns_4 fa75_4 (lt rfl)) ?_
  refine st (l_ld (o_t rfl) ty3 (lt rfl)) ?_
  obtain ⟨t1, h2, hp_⟩ := bs hp_
  refine st (l_call (ok47 x.N (16 : Int) _ h2) (.cons (o_t rfl) (.cons (o_i) (.nil))) (lt rfl)) ?_
  refine st (l_assign (o_t rfl) (lt rfl)) ?_
  refine r_nil (k_seq ?_)
  cases hp_
  exact t_ret (k_ret () rfl rfl rfl rfl rfl)
-- pointsman/code.rows$14
theorem ok98 (l : code_look) (x : aIns) (p : code_place) (y_ : Bool) (hp_ : code_rows_14 l x p = some y_) : FP Tryz.prog 98 [⟨(k_code_look).v, l⟩, ⟨(k_aIns).v, x⟩, ⟨(k_code_place).v, p⟩] vBool y_ := by
  unfold code_rows_14 at hp_
  refine fc_of 18 Tryz.func98 rfl fn98 rfl (Nat.le_of_ble_eq_true rfl) fun I_ w_ F_ => ?_
  refine t_seq ?_
  refine t_reg ?_
  refine st (l_box (o_t rfl) (lt rfl)) ?_
  refine st (l_box (o_t rfl) (lt rfl)) ?_
  refine st (l_box (o_t rfl) (lt rfl)) ?_
  refine st (l_assign (o_b) (lt rfl)) ?_
  refine r_nil (k_seq ?_)
  refine t_seq ?_
  refine t_reg ?_
  refine st (l_fa (o_t rfl) fl_code_place_2 fa117_2 (lt rfl)) ?_
  refine st (l_ld (o_t rfl) ty4 (lt rfl)) ?_
  refine st (l_move (o_t rfl) (lt rfl)) ?_
  rcases bt (p.main) with hb1 | hb1
  · rw [if_neg (nt hb1)] at hp_
    refine g_n ⟨9, vBool, p.main⟩ rfl rfl (noy_b (b := true) hb1) (lt rfl) ?_
    refine g_n ⟨9, vBool, p.main⟩ rfl rfl (noy_b (b := true) hb1) (lt rfl) ?_
    refine g_n ⟨9, vBool, p.main⟩ rfl rfl (noy_b (b := true) hb1) (lt rfl) ?_
    refine g_n ⟨9, vBool, p.main⟩ rfl rfl (noy_b (b := true) hb1) (lt rfl) ?_
    refine g_n ⟨9, vBool, p.main⟩ rfl rfl (noy_b (b := true) hb1) (lt rfl) ?_
    refine g_n ⟨9, vBool, p.main⟩ rfl rfl (noy_b (b := true) hb1) (lt rfl) ?_
    refine g_n ⟨9, vBool, p.main⟩ rfl rfl (noy_b (b := true) hb1) (lt rfl) ?_
    refine st (l_pickf (o_t rfl) hb1 (o_b) (lt rfl)) ?_
    refine st (l_assign (o_t rfl) (lt rfl)) ?_
    refine r_nil (k_seq ?_)
    cases hp_
    exact t_ret (k_ret () rfl rfl rfl rfl rfl)
  · rw [if_pos hb1] at hp_
    refine g_t rfl rfl hb1 ?_
    refine st (l_fa (o_t rfl) fl_aIns_4 fa75_4 (lt rfl)) ?_
    refine g_t rfl rfl hb1 ?_
    refine st (l_ld (o_t rfl) ty3 (lt rfl)) ?_
    refine g_t rfl rfl hb1 ?_
    refine st (l_fa (o_t rfl) fl_code_look_0 fa51_0 (lt rfl)) ?_
    refine g_t rfl rfl hb1 ?_
    refine st (l_fa (o_t rfl) fl_aCode_6 fa30_6 (lt rfl)) ?_
    refine g_t rfl rfl hb1 ?_
    refine st (l_ld (o_t rfl) ty27 (lt rfl)) ?_
    refine g_t rfl rfl hb1 ?_
    refine st (l_lens (o_t rfl) sl27 (lt rfl)) ?_
    refine g_t rfl rfl hb1 ?_
    obtain ⟨t2, h3, hp_⟩ := bs hp_
    refine st (l_call (ok47 x.N (l.c.Tables.length : Int) _ h3) (.cons (o_t rfl) (.cons (o_t rfl) (.nil))) (lt rfl)) ?_
    refine st (l_pickt (o_t rfl) hb1 (o_t rfl) (lt rfl)) ?_
    refine st (l_assign (o_t rfl) (lt rfl)) ?_
    refine r_nil (k_seq ?_)
    cases hp_
    exact t_ret (k_ret () rfl rfl rfl rfl rfl)
-- (pointsman/code.look).alike$1
theorem ok110_0 (m : Int) (n : Int) (p2 : code_look) (y_ : Bool) (hp_ : code_look_alike_1 m n p2 = some y_) : FP Tryz.prog 110 [⟨vInt .i64, m⟩, ⟨vInt .i64, n⟩, ⟨vPtr k_code_look, p2⟩] vBool y_ := by
  unfold code_look_alike_1 at hp_
  refine fc_of 15 Tryz.func110 rfl fn110 rfl (Nat.le_of_ble_eq_true rfl) fun I_ w_ F_ => ?_
  refine t_seq ?_
  refine t_reg ?_
  refine st (l_assign (o_b) (lt rfl)) ?_
  refine r_nil (k_seq ?_)
  refine t_seq ?_
  obtain ⟨t1, h2, hp_⟩ := bs hp_
  obtain ⟨t3, h4, hp_⟩ := bs hp_
  refine t_draw [(0, fun gs_ => some ⟨6, (k_code_look).v, p2⟩), (0, fun gs_ => some ⟨7, vInt .i64, n⟩), (0, fun gs_ => some ⟨8, vPtr k_aCode, p2.c⟩), (0, fun gs_ => some ⟨9, vPtr (kSlice (kInt .i64)), p2.c.Slots⟩), (0, fun gs_ => some ⟨10, vSlice (kInt .i64), p2.c.Slots⟩), (0, fun gs_ => some ⟨11, vInt .i64, m⟩), (0, fun gs_ => some ⟨12, vPtr (kInt .i64), t1⟩), (0, fun gs_ => some ⟨13, vInt .i64, t1⟩), (0, fun gs_ => some ⟨14, vBool, t3⟩), (0, fun gs_ => some ⟨5, vBool, t3⟩)] mixed rfl rfl (fun _ => []) [] rfl (.x (f := fun gs_ => ⟨6, (k_code_look).v, p2⟩) 0 (fun gs_ => [⟨2, vPtr k_code_look, p2⟩]) rfl (fun gs_ => l_ld (o_t rfl) ty51 (lt rfl)) (fun gs_ => .b rfl rfl (.nil)) .n (fun _ => rfl) rfl (fun _ _ _ => rfl) (.x (f := fun gs_ => ⟨7, vInt .i64, n⟩) 0 (fun gs_ => [⟨1, vInt .i64, n⟩]) rfl (fun gs_ => l_move (o_t rfl) (lt rfl)) (fun gs_ => .b rfl rfl (.nil)) .n (fun _ => rfl) rfl (fun _ _ _ => rfl) (.x (f := fun gs_ => ⟨8, vPtr k_aCode, p2.c⟩) 0 (fun gs_ => [⟨2, vPtr k_code_look, p2⟩]) rfl (fun gs_ => l_fa (o_t rfl) fl_code_look_0 fa51_0 (lt rfl)) (fun gs_ => .b rfl rfl (.nil)) .n (fun _ => rfl) rfl (fun _ _ _ => rfl) (.x (f := fun gs_ => ⟨9, vPtr (kSlice (kInt .i64)), p2.c.Slots⟩) 0 (fun gs_ => [⟨8, vPtr k_aCode, p2.c⟩]) rfl (fun gs_ => l_fa (o_t rfl) fl_aCode_0 fa30_0 (lt rfl)) (fun gs_ => .d 2 rfl rfl (.nil)) .n (fun _ => rfl) rfl (fun _ _ _ => rfl) (.x (f := fun gs_ => ⟨10, vSlice (kInt .i64), p2.c.Slots⟩) 0 (fun gs_ => [⟨9, vPtr (kSlice (kInt .i64)), p2.c.Slots⟩]) rfl (fun gs_ => l_ld (o_t rfl) ty22 (lt rfl)) (fun gs_ => .d 3 rfl rfl (.nil)) .n (fun _ => rfl) rfl (fun _ _ _ => rfl) (.x (f := fun gs_ => ⟨11, vInt .i64, m⟩) 0 (fun gs_ => [⟨0, vInt .i64, m⟩]) rfl (fun gs_ => l_move (o_t rfl) (lt rfl)) (fun gs_ => .b rfl rfl (.nil)) .n (fun _ => rfl) rfl (fun _ _ _ => rfl) (.x (f := fun gs_ => ⟨12, vPtr (kInt .i64), t1⟩) 0 (fun gs_ => [⟨10, vSlice (kInt .i64), p2.c.Slots⟩, ⟨11, vInt .i64, m⟩]) rfl (fun gs_ => l_ia (o_t rfl) (o_t rfl) h2 sl22 sz3 (lt rfl)) (fun gs_ => .d 4 rfl rfl (.d 5 rfl rfl (.nil))) .n (fun _ => rfl) rfl (fun _ _ _ => rfl) (.x (f := fun gs_ => ⟨13, vInt .i64, t1⟩) 0 (fun gs_ => [⟨12, vPtr (kInt .i64), t1⟩]) rfl (fun gs_ => l_ld (o_t rfl) ty3 (lt rfl)) (fun gs_ => .d 6 rfl rfl (.nil)) .n (fun _ => rfl) rfl (fun _ _ _ => rfl) (.x (f := fun gs_ => ⟨14, vBool, t3⟩) 0 (fun gs_ => [⟨6, (k_code_look).v, p2⟩, ⟨7, vInt .i64, n⟩, ⟨13, vInt .i64, t1⟩]) rfl (fun gs_ => l_call (ok45 p2 n t1 _ h4) (.cons (o_t rfl) (.cons (o_t rfl) (.cons (o_t rfl) (.nil)))) (lt rfl)) (fun gs_ => .d 0 rfl rfl (.d 1 rfl rfl (.d 7 rfl rfl (.nil)))) .n (fun _ => rfl) rfl (fun _ _ _ => rfl) (.x (f := fun gs_ => ⟨5, vBool, t3⟩) 0 (fun gs_ => [⟨14, vBool, t3⟩]) rfl (fun gs_ => l_assign (o_t rfl) (lt rfl)) (fun gs_ => .d 8 rfl rfl (.nil)) .n (fun _ => rfl) rfl (fun _ _ _ => rfl) (.nil))))))))))) (fun gs_ hgs_ => ?_)
  refine k_seq ?_
  cases hp_
  exact t_ret (k_ret () rfl rfl rfl rfl rfl)
-- slices.EqualFunc[[]int,[]int,int,int]
theorem ok109 (s1_0 : List Int) (s2_1 : List Int) (eq : (Int × Int) → Option Bool) (y_ : Bool) (hp_ : slices_EqualFunc_int_int_int_int s1_0 s2_1 eq = some y_) : FP Tryz.prog 109 [⟨vSlice (kInt .i64), s1_0⟩, ⟨vSlice (kInt .i64), s2_1⟩, ⟨vClo Tryz.prog (fun x : Int × Int => [⟨vInt .i64, x.1⟩, ⟨vInt .i64, x.2⟩]) vBool, eq⟩] vBool y_ := by
  unfold slices_EqualFunc_int_int_int_int at hp_
  refine fc_of 32 Tryz.func109 rfl fn109 rfl (Nat.le_of_ble_eq_true rfl) fun I_ w_ F_ => ?_
  refine t_seq ?_
  refine t_reg ?_
  refine st (l_assign (o_b) (lt rfl)) ?_
  refine r_nil (k_seq ?_)
  refine t_seq ?_
  refine t_seq ?_
  refine t_reg ?_
  refine st (l_move (o_t rfl) (lt rfl)) ?_
  refine st (l_lens (o_t rfl) sl22 (lt rfl)) ?_
  refine st (l_move (o_t rfl) (lt rfl)) ?_
  refine st (l_lens (o_t rfl) sl22 (lt rfl)) ?_
  refine st (l_cmp (o_t rfl) (o_t rfl) .neq (lt rfl)) ?_
  refine r_nil (k_seq ?_)
  rcases bt ((s1_0.length : Int) != (s2_1.length : Int)) with hb1 | hb1
  · rw [if_neg (nt hb1)] at hp_
    refine t_iff (o_t rfl) hb1 ?_
    refine t_skip (k_seq ?_)
    refine t_seq ?_
    refine t_seq ?_
    refine t_reg ?_
    refine st (l_move (o_t rfl) (lt rfl)) ?_
    refine st (l_lens (o_t rfl) sl22 (lt rfl)) ?_
    refine st (l_move (o_i) (lt rfl)) ?_
    refine r_nil (k_seq ?_)
    obtain ⟨res1_, hl1_0, hx1_⟩ := bs hp_
    clear hp_
    refine t_sub (Γ' := [⟨17, vInt .i64, (0 : Int)⟩, ⟨1, vSlice (kInt .i64), s2_1⟩, ⟨2, vClo Tryz.prog (fun x : Int × Int => [⟨vInt .i64, x.1⟩, ⟨vInt .i64, x.2⟩]) vBool, eq⟩, ⟨15, vSlice (kInt .i64), s1_0⟩, ⟨16, vInt .i64, (s1_0.length : Int)⟩]) (Sub.cons rfl (Sub.cons rfl (Sub.cons rfl (Sub.cons rfl (Sub.cons rfl (Sub.nil _)))))) ?_
    refine t_bloop (β := Nat × Int) (σ := Unit) (fun x_ => [⟨17, vInt .i64, x_.2⟩, ⟨1, vSlice (kInt .i64), s2_1⟩, ⟨2, vClo Tryz.prog (fun x : Int × Int => [⟨vInt .i64, x.1⟩, ⟨vInt .i64, x.2⟩]) vBool, eq⟩, ⟨15, vSlice (kInt .i64), s1_0⟩, ⟨16, vInt .i64, (s1_0.length : Int)⟩]) (fun x_ => []) (fun x_ => slices_EqualFunc_int_int_int.l1 x_.1 s1_0 s2_1 eq x_.2 = some res1_) (fun x_ => x_.1) (fun x_ => []) (fun x_ => []) (fun x_ => res1_ = .go x_) ?_ ?_ ((((s1_0.length : Int) - (0 : Int)).toNat + 1), (0 : Int)) hl1_0
    · rintro ⟨k1_, v17_1⟩ hl1_
      rcases k1_ with _ | k1_
      · exact absurd (show none = some res1_ from hl1_) (by simp)
      replace hl1_ : slices_EqualFunc_int_int_int.l1 (k1_ + 1) s1_0 s2_1 eq v17_1 = some res1_ := hl1_
      rw [slices_EqualFunc_int_int_int.l1.eq_2] at hl1_
      show Tr Tryz.prog _ [⟨17, vInt .i64, v17_1⟩, ⟨1, vSlice (kInt .i64), s2_1⟩, ⟨2, vClo Tryz.prog (fun x : Int × Int => [⟨vInt .i64, x.1⟩, ⟨vInt .i64, x.2⟩]) vBool, eq⟩, ⟨15, vSlice (kInt .i64), s1_0⟩, ⟨16, vInt .i64, (s1_0.length : Int)⟩] [] _ _
      refine t_seq ?_
      refine t_reg ?_
      refine st (l_cmp (o_t rfl) (o_t rfl) .lss (lt rfl)) ?_
      refine r_nil (k_seq ?_)
      refine t_seq ?_
      rcases bt (decide (v17_1 < (s1_0.length : Int))) with hb2 | hb2
      · rw [if_neg (nt hb2)] at hl1_
        refine t_iff (o_t rfl) hb2 ?_
        exact t_exit (k_te <| k_te <| k_be <| k_brk () (Option.some.inj hl1_).symm (Sub.nil _) rfl)
      · rw [if_pos hb2] at hl1_
        refine t_ift (o_t rfl) hb2 ?_
        refine t_skip (k_seq ?_)
        refine t_seq ?_
        refine t_blk ?_
        refine t_seq ?_
        refine t_reg ?_
        refine st (l_move (o_t rfl) (lt rfl)) ?_
        obtain ⟨t3, h4, hl1_⟩ := bs hl1_
        refine st (l_ia (o_t rfl) (o_t rfl) h4 sl22 sz3 (lt rfl)) ?_
        refine st (l_ld (o_t rfl) ty3 (lt rfl)) ?_
        refine st (l_assign (o_t rfl) (lt rfl)) ?_
        refine st (l_assign (o_t rfl) (lt rfl)) ?_
        refine r_nil (k_seq ?_)
        refine t_seq ?_
        refine t_reg ?_
        refine st (l_move (o_t rfl) (lt rfl)) ?_
        refine st (l_move (o_t rfl) (lt rfl)) ?_
        obtain ⟨t5, h6, hl1_⟩ := bs hl1_
        refine st (l_ia (o_t rfl) (o_t rfl) h6 sl22 sz3 (lt rfl)) ?_
        refine st (l_ld (o_t rfl) ty3 (lt rfl)) ?_
        refine st (l_assign (o_t rfl) (lt rfl)) ?_
        refine r_nil (k_seq ?_)
        refine t_seq ?_
        refine t_reg ?_
        refine st (l_move (o_t rfl) (lt rfl)) ?_
        refine st (l_move (o_t rfl) (lt rfl)) ?_
        refine st (l_move (o_t rfl) (lt rfl)) ?_
        obtain ⟨t7, h8, hl1_⟩ := bs hl1_
        refine st (l_callc (o_t rfl) (x := (t3, t5)) (.cons (o_t rfl) (.cons (o_t rfl) (.nil))) h8 (lt rfl)) ?_
        refine st (l_not (o_t rfl) (lt rfl)) ?_
        refine r_nil (k_seq ?_)
        rcases bt (!t7) with hb9 | hb9
        · rw [if_neg (nt hb9)] at hl1_
          refine t_iff (o_t rfl) hb9 ?_
          refine t_skip (k_bn <| k_seq ?_)
          refine t_reg ?_
          refine st (l_bin (o_t rfl) (o_i) .add (lt rfl)) ?_
          refine st (l_move (o_t rfl) (lt rfl)) ?_
          exact r_nil (k_again (k1_, IntKind.wrap .i64 (v17_1 + (1 : Int))) hl1_ (Nat.lt_succ_self _) (Sub.cons rfl (Sub.cons rfl (Sub.cons rfl (Sub.cons rfl (Sub.cons rfl (Sub.nil _)))))) rfl)
        · rw [if_pos hb9] at hl1_
          refine t_ift (o_t rfl) hb9 ?_
          refine t_seq ?_
          refine t_reg ?_
          refine st (l_assign (o_b) (lt rfl)) ?_
          refine r_nil (k_seq ?_)
          cases hl1_
          dsimp only [Ex.elim] at hx1_
          cases hx1_
          exact t_ret (k_br <| k_tr <| k_tr <| k_br <| k_brk_r <| k_tr <| k_ret () rfl rfl rfl rfl rfl)
    · intro s1_ hs1_
      replace hs1_ : res1_ = .go s1_ := hs1_
      subst hs1_
      dsimp only [Ex.elim] at hx1_
      have hp_ := hx1_
      clear hx1_
      show Kx _ [] [] _ _
      refine k_seq ?_
      refine t_seq ?_
      refine t_reg ?_
      refine st (l_assign (o_b) (lt rfl)) ?_
      refine r_nil (k_seq ?_)
      cases hp_
      exact t_ret (k_ret () rfl rfl rfl rfl rfl)
  · rw [if_pos hb1] at hp_
    refine t_ift (o_t rfl) hb1 ?_
    refine t_seq ?_
    refine t_reg ?_
    refine st (l_assign (o_b) (lt rfl)) ?_
    refine r_nil (k_seq ?_)
    cases hp_
    exact t_ret (k_tr <| k_ret () rfl rfl rfl rfl rfl)
-- (pointsman/code.look).alike
theorem ok100 (l : code_look) (a : List Int) (b : List Int) (y_ : Bool) (hp_ : code_look_alike l a b = some y_) : FP Tryz.prog 100 [⟨(k_code_look).v, l⟩, ⟨vSlice (kInt .i64), a⟩, ⟨vSlice (kInt .i64), b⟩] vBool y_ := by
  unfold code_look_alike at hp_
  refine fc_of 16 Tryz.func100 rfl fn100 rfl (Nat.le_of_ble_eq_true rfl) fun I_ w_ F_ => ?_
  refine t_seq ?_
  refine t_reg ?_
  refine st (l_box (o_t rfl) (lt rfl)) ?_
  refine st (l_assign (o_b) (lt rfl)) ?_
  refine r_nil (k_seq ?_)
  refine t_seq ?_
  refine t_reg ?_
  refine st (l_ld (o_t rfl) ty51 (lt rfl)) ?_
  refine st (l_move (o_t rfl) (lt rfl)) ?_
  obtain ⟨t1, h2, hp_⟩ := bs hp_
  refine st (l_call (ok59 l a _ h2) (.cons (o_t rfl) (.cons (o_t rfl) (.nil))) (lt rfl)) ?_
  refine st (l_move (o_t rfl) (lt rfl)) ?_
  rcases bt (t1) with hb3 | hb3
  · rw [if_neg (nt hb3)] at hp_
    refine g_n ⟨10, vBool, t1⟩ rfl rfl (noy_b (b := true) hb3) (lt rfl) ?_
    refine g_n ⟨10, vBool, t1⟩ rfl rfl (noy_b (b := true) hb3) (lt rfl) ?_
    refine g_n ⟨10, vBool, t1⟩ rfl rfl (noy_b (b := true) hb3) (lt rfl) ?_
    refine g_n ⟨10, vBool, t1⟩ rfl rfl (noy_b (b := true) hb3) (lt rfl) ?_
    refine st (l_pickf (o_t rfl) hb3 (o_b) (lt rfl)) ?_
    refine st (l_assign (o_t rfl) (lt rfl)) ?_
    refine r_nil (k_seq ?_)
    cases hp_
    exact t_ret (k_ret () rfl rfl rfl rfl rfl)
  · rw [if_pos hb3] at hp_
    refine g_t rfl rfl hb3 ?_
    refine st (l_move (o_t rfl) (lt rfl)) ?_
    refine g_t rfl rfl hb3 ?_
    refine st (l_move (o_t rfl) (lt rfl)) ?_
    refine g_t rfl rfl hb3 ?_
    refine st (l_mkf (.nil) (.cons (o_t rfl) (.nil)) (lt rfl)) ?_
    refine g_t rfl rfl hb3 ?_
    obtain ⟨t4, h5, hp_⟩ := bs hp_
    refine st (l_call (ok109 a b (fun x_ : Int × Int => code_look_alike_1 x_.1 x_.2 l) _ h5) (.cons (o_t rfl) (.cons (o_t rfl) (.cons (o_clo (o_t rfl) fn110 (fun x_ y h => ok110_0 x_.1 x_.2 l _ h)) (.nil)))) (lt rfl)) ?_
    refine st (l_pickt (o_t rfl) hb3 (o_t rfl) (lt rfl)) ?_
    refine st (l_assign (o_t rfl) (lt rfl)) ?_
    refine r_nil (k_seq ?_)
    cases hp_
    exact t_ret (k_ret () rfl rfl rfl rfl rfl)
-- pointsman/code.rows$15
theorem ok99 (l : code_look) (x : aIns) (p : code_place) (y_ : Bool) (hp_ : code_rows_15 l x p = some y_) : FP Tryz.prog 99 [⟨(k_code_look).v, l⟩, ⟨(k_aIns).v, x⟩, ⟨(k_code_place).v, p⟩] vBool y_ := by
  unfold code_rows_15 at hp_
  refine fc_of 32 Tryz.func99 rfl fn99 rfl (Nat.le_of_ble_eq_true rfl) fun I_ w_ F_ => ?_
  refine t_seq ?_
  refine t_reg ?_
  refine st (l_box (o_t rfl) (lt rfl)) ?_
  refine st (l_box (o_t rfl) (lt rfl)) ?_
  refine st (l_box (o_t rfl) (lt rfl)) ?_
  refine st (l_assign (o_b) (lt rfl)) ?_
  refine r_nil (k_seq ?_)
  refine t_seq ?_
  rcases bt (p.main) with hb1 | hb1
  · rw [if_neg (nt hb1)] at hp_
    refine t_draw [(0, fun gs_ => some ⟨7, vPtr kBool, p.main⟩), (0, fun gs_ => some ⟨8, vBool, p.main⟩), (0, fun gs_ => some ⟨9, vBool, p.main⟩), (0, fun _ => some ⟨10, vUnd, ()⟩), (0, fun _ => some ⟨11, vUnd, ()⟩), (0, fun _ => some ⟨12, vUnd, ()⟩), (0, fun _ => some ⟨13, vUnd, ()⟩), (0, fun _ => some ⟨14, vUnd, ()⟩), (0, fun _ => some ⟨15, vUnd, ()⟩), (0, fun _ => some ⟨16, vUnd, ()⟩), (0, fun gs_ => some ⟨17, vBool, false⟩), (0, fun gs_ => some ⟨18, vBool, false⟩), (0, fun _ => some ⟨19, vUnd, ()⟩), (0, fun _ => some ⟨20, vUnd, ()⟩), (0, fun _ => some ⟨21, vUnd, ()⟩), (0, fun _ => some ⟨22, vUnd, ()⟩), (0, fun _ => some ⟨23, vUnd, ()⟩), (0, fun _ => some ⟨24, vUnd, ()⟩), (0, fun _ => some ⟨25, vUnd, ()⟩), (0, fun _ => some ⟨26, vUnd, ()⟩), (0, fun _ => some ⟨27, vUnd, ()⟩), (0, fun _ => some ⟨28, vUnd, ()⟩), (0, fun _ => some ⟨29, vUnd, ()⟩), (0, fun _ => some ⟨30, vUnd, ()⟩), (0, fun gs_ => some ⟨31, vBool, false⟩), (0, fun gs_ => some ⟨6, vBool, false⟩)] mixed rfl rfl (fun _ => []) [] rfl (.x (f := fun gs_ => ⟨7, vPtr kBool, p.main⟩) 0 (fun gs_ => [⟨5, vPtr k_code_place, p⟩]) rfl (fun gs_ => l_fa (o_t rfl) fl_code_place_2 fa117_2 (lt rfl)) (fun gs_ => .b rfl rfl (.nil)) .n (fun _ => rfl) rfl (fun _ _ _ => rfl) (.x (f := fun gs_ => ⟨8, vBool, p.main⟩) 0 (fun gs_ => [⟨7, vPtr kBool, p.main⟩]) rfl (fun gs_ => l_ld (o_t rfl) ty4 (lt rfl)) (fun gs_ => .d 0 rfl rfl (.nil)) .n (fun _ => rfl) rfl (fun _ _ _ => rfl) (.x (f := fun gs_ => ⟨9, vBool, p.main⟩) 0 (fun gs_ => [⟨8, vBool, p.main⟩]) rfl (fun gs_ => l_move (o_t rfl) (lt rfl)) (fun gs_ => .d 1 rfl rfl (.nil)) .n (fun _ => rfl) rfl (fun _ _ _ => rfl) (.n (fun gs_ => ⟨9, vBool, p.main⟩) rfl (fun _ => rfl) (fun gs_ => .d 2 rfl rfl (.nil)) (fun _ => noy_b (b := true) hb1) (lt rfl) (.n (fun gs_ => ⟨9, vBool, p.main⟩) rfl (fun _ => rfl) (fun gs_ => .d 2 rfl rfl (.nil)) (fun _ => noy_b (b := true) hb1) (lt rfl) (.n (fun gs_ => ⟨9, vBool, p.main⟩) rfl (fun _ => rfl) (fun gs_ => .d 2 rfl rfl (.nil)) (fun _ => noy_b (b := true) hb1) (lt rfl) (.n (fun gs_ => ⟨9, vBool, p.main⟩) rfl (fun _ => rfl) (fun gs_ => .d 2 rfl rfl (.nil)) (fun _ => noy_b (b := true) hb1) (lt rfl) (.n (fun gs_ => ⟨9, vBool, p.main⟩) rfl (fun _ => rfl) (fun gs_ => .d 2 rfl rfl (.nil)) (fun _ => noy_b (b := true) hb1) (lt rfl) (.n (fun gs_ => ⟨9, vBool, p.main⟩) rfl (fun _ => rfl) (fun gs_ => .d 2 rfl rfl (.nil)) (fun _ => noy_b (b := true) hb1) (lt rfl) (.n (fun gs_ => ⟨9, vBool, p.main⟩) rfl (fun _ => rfl) (fun gs_ => .d 2 rfl rfl (.nil)) (fun _ => noy_b (b := true) hb1) (lt rfl) (.x (f := fun gs_ => ⟨17, vBool, false⟩) 0 (fun gs_ => [⟨9, vBool, p.main⟩]) rfl (fun gs_ => l_pickf (o_t rfl) hb1 (o_b) (lt rfl)) (fun gs_ => .d 2 rfl rfl (.nil)) .n (fun _ => rfl) rfl (fun _ _ _ => rfl) (.x (f := fun gs_ => ⟨18, vBool, false⟩) 0 (fun gs_ => [⟨17, vBool, false⟩]) rfl (fun gs_ => l_move (o_t rfl) (lt rfl)) (fun gs_ => .d 10 rfl rfl (.nil)) .n (fun _ => rfl) rfl (fun _ _ _ => rfl) (.n (fun gs_ => ⟨18, vBool, false⟩) rfl (fun _ => rfl) (fun gs_ => .d 11 rfl rfl (.nil)) (fun _ => noy_b (b := true) rfl) (lt rfl) (.n (fun gs_ => ⟨18, vBool, false⟩) rfl (fun _ => rfl) (fun gs_ => .d 11 rfl rfl (.nil)) (fun _ => noy_b (b := true) rfl) (lt rfl) (.n (fun gs_ => ⟨18, vBool, false⟩) rfl (fun _ => rfl) (fun gs_ => .d 11 rfl rfl (.nil)) (fun _ => noy_b (b := true) rfl) (lt rfl) (.n (fun gs_ => ⟨18, vBool, false⟩) rfl (fun _ => rfl) (fun gs_ => .d 11 rfl rfl (.nil)) (fun _ => noy_b (b := true) rfl) (lt rfl) (.n (fun gs_ => ⟨18, vBool, false⟩) rfl (fun _ => rfl) (fun gs_ => .d 11 rfl rfl (.nil)) (fun _ => noy_b (b := true) rfl) (lt rfl) (.n (fun gs_ => ⟨18, vBool, false⟩) rfl (fun _ => rfl) (fun gs_ => .d 11 rfl rfl (.nil)) (fun _ => noy_b (b := true) rfl) (lt rfl) (.n (fun gs_ => ⟨18, vBool, false⟩) rfl (fun _ => rfl) (fun gs_ => .d 11 rfl rfl (.nil)) (fun _ => noy_b (b := true) rfl) (lt rfl) (.n (fun gs_ => ⟨18, vBool, false⟩) rfl (fun _ => rfl) (fun gs_ => .d 11 rfl rfl (.nil)) (fun _ => noy_b (b := true) rfl) (lt rfl) (.n (fun gs_ => ⟨18, vBool, false⟩) rfl (fun _ => rfl) (fun gs_ => .d 11 rfl rfl (.nil)) (fun _ => noy_b (b := true) rfl) (lt rfl) (.n (fun gs_ => ⟨18, vBool, false⟩) rfl (fun _ => rfl) (fun gs_ => .d 11 rfl rfl (.nil)) (fun _ => noy_b (b := true) rfl) (lt rfl) (.n (fun gs_ => ⟨18, vBool, false⟩) rfl (fun _ => rfl) (fun gs_ => .d 11 rfl rfl (.nil)) (fun _ => noy_b (b := true) rfl) (lt rfl) (.n (fun gs_ => ⟨18, vBool, false⟩) rfl (fun _ => rfl) (fun gs_ => .d 11 rfl rfl (.nil)) (fun _ => noy_b (b := true) rfl) (lt rfl) (.x (f := fun gs_ => ⟨31, vBool, false⟩) 0 (fun gs_ => [⟨18, vBool, false⟩]) rfl (fun gs_ => l_pickf (o_t rfl) rfl (o_b) (lt rfl)) (fun gs_ => .d 11 rfl rfl (.nil)) .n (fun _ => rfl) rfl (fun _ _ _ => rfl) (.x (f := fun gs_ => ⟨6, vBool, false⟩) 0 (fun gs_ => [⟨31, vBool, false⟩]) rfl (fun gs_ => l_assign (o_t rfl) (lt rfl)) (fun gs_ => .d 24 rfl rfl (.nil)) .n (fun _ => rfl) rfl (fun _ _ _ => rfl) (.nil))))))))))))))))))))))))))) (fun gs_ hgs_ => ?_)
    refine k_seq ?_
    cases hp_
    exact t_ret (k_ret () rfl rfl rfl rfl rfl)
  · rw [if_pos hb1] at hp_
    obtain ⟨t2, h3, hp_⟩ := bs hp_
    rcases bt (t2) with hb4 | hb4
    · rw [if_neg (nt hb4)] at hp_
      refine t_draw [(0, fun gs_ => some ⟨7, vPtr kBool, p.main⟩), (0, fun gs_ => some ⟨8, vBool, p.main⟩), (0, fun gs_ => some ⟨9, vBool, p.main⟩), (0, fun gs_ => some ⟨10, vPtr (kInt .i64), x.N⟩), (0, fun gs_ => some ⟨11, vInt .i64, x.N⟩), (0, fun gs_ => some ⟨12, vPtr k_aCode, l.c⟩), (0, fun gs_ => some ⟨13, vPtr (kSlice k_aAct), l.c.Acts⟩), (0, fun gs_ => some ⟨14, vSlice k_aAct, l.c.Acts⟩), (0, fun gs_ => some ⟨15, vInt .i64, (l.c.Acts.length : Int)⟩), (0, fun gs_ => some ⟨16, vBool, t2⟩), (0, fun gs_ => some ⟨17, vBool, t2⟩), (0, fun gs_ => some ⟨18, vBool, t2⟩), (0, fun _ => some ⟨19, vUnd, ()⟩), (0, fun _ => some ⟨20, vUnd, ()⟩), (0, fun _ => some ⟨21, vUnd, ()⟩), (0, fun _ => some ⟨22, vUnd, ()⟩), (0, fun _ => some ⟨23, vUnd, ()⟩), (0, fun _ => some ⟨24, vUnd, ()⟩), (0, fun _ => some ⟨25, vUnd, ()⟩), (0, fun _ => some ⟨26, vUnd, ()⟩), (0, fun _ => some ⟨27, vUnd, ()⟩), (0, fun _ => some ⟨28, vUnd, ()⟩), (0, fun _ => some ⟨29, vUnd, ()⟩), (0, fun _ => some ⟨30, vUnd, ()⟩), (0, fun gs_ => some ⟨31, vBool, false⟩), (0, fun gs_ => some ⟨6, vBool, false⟩)] mixed rfl rfl (fun _ => []) [] rfl (.x (f := fun gs_ => ⟨7, vPtr kBool, p.main⟩) 0 (fun gs_ => [⟨5, vPtr k_code_place, p⟩]) rfl (fun gs_ => l_fa (o_t rfl) fl_code_place_2 fa117_2 (lt rfl)) (fun gs_ => .b rfl rfl (.nil)) .n (fun _ => rfl) rfl (fun _ _ _ => rfl) (.x (f := fun gs_ => ⟨8, vBool, p.main⟩) 0 (fun gs_ => [⟨7, vPtr kBool, p.main⟩]) rfl (fun gs_ => l_ld (o_t rfl) ty4 (lt rfl)) (fun gs_ => .d 0 rfl rfl (.nil)) .n (fun _ => rfl) rfl (fun _ _ _ => rfl) (.x (f := fun gs_ => ⟨9, vBool, p.main⟩) 0 (fun gs_ => [⟨8, vBool, p.main⟩]) rfl (fun gs_ => l_move (o_t rfl) (lt rfl)) (fun gs_ => .d 1 rfl rfl (.nil)) .n (fun _ => rfl) rfl (fun _ _ _ => rfl) (.x (f := fun gs_ => ⟨10, vPtr (kInt .i64), x.N⟩) 0 (fun gs_ => [⟨4, vPtr k_aIns, x⟩]) rfl (fun gs_ => l_fa (o_t rfl) fl_aIns_4 fa75_4 (lt rfl)) (fun gs_ => .b rfl rfl (.nil)) (.s rfl (fun gs_ => .d 2 rfl rfl (.nil)) hb1) (fun _ => rfl) rfl (fun _ _ _ => rfl) (.x (f := fun gs_ => ⟨11, vInt .i64, x.N⟩) 0 (fun gs_ => [⟨10, vPtr (kInt .i64), x.N⟩]) rfl (fun gs_ => l_ld (o_t rfl) ty3 (lt rfl)) (fun gs_ => .d 3 rfl rfl (.nil)) (.s rfl (fun gs_ => .d 2 rfl rfl (.nil)) hb1) (fun _ => rfl) rfl (fun _ _ _ => rfl) (.x (f := fun gs_ => ⟨12, vPtr k_aCode, l.c⟩) 0 (fun gs_ => [⟨3, vPtr k_code_look, l⟩]) rfl (fun gs_ => l_fa (o_t rfl) fl_code_look_0 fa51_0 (lt rfl)) (fun gs_ => .b rfl rfl (.nil)) (.s rfl (fun gs_ => .d 2 rfl rfl (.nil)) hb1) (fun _ => rfl) rfl (fun _ _ _ => rfl) (.x (f := fun gs_ => ⟨13, vPtr (kSlice k_aAct), l.c.Acts⟩) 0 (fun gs_ => [⟨12, vPtr k_aCode, l.c⟩]) rfl (fun gs_ => l_fa (o_t rfl) fl_aCode_5 fa30_5 (lt rfl)) (fun gs_ => .d 5 rfl rfl (.nil)) (.s rfl (fun gs_ => .d 2 rfl rfl (.nil)) hb1) (fun _ => rfl) rfl (fun _ _ _ => rfl) (.x (f := fun gs_ => ⟨14, vSlice k_aAct, l.c.Acts⟩) 0 (fun gs_ => [⟨13, vPtr (kSlice k_aAct), l.c.Acts⟩]) rfl (fun gs_ => l_ld (o_t rfl) ty26 (lt rfl)) (fun gs_ => .d 6 rfl rfl (.nil)) (.s rfl (fun gs_ => .d 2 rfl rfl (.nil)) hb1) (fun _ => rfl) rfl (fun _ _ _ => rfl) (.x (f := fun gs_ => ⟨15, vInt .i64, (l.c.Acts.length : Int)⟩) 0 (fun gs_ => [⟨14, vSlice k_aAct, l.c.Acts⟩]) rfl (fun gs_ => l_lens (o_t rfl) sl26 (lt rfl)) (fun gs_ => .d 7 rfl rfl (.nil)) (.s rfl (fun gs_ => .d 2 rfl rfl (.nil)) hb1) (fun _ => rfl) rfl (fun _ _ _ => rfl) (.x (f := fun gs_ => ⟨16, vBool, t2⟩) 0 (fun gs_ => [⟨11, vInt .i64, x.N⟩, ⟨15, vInt .i64, (l.c.Acts.length : Int)⟩]) rfl (fun gs_ => l_call (ok47 x.N (l.c.Acts.length : Int) _ h3) (.cons (o_t rfl) (.cons (o_t rfl) (.nil))) (lt rfl)) (fun gs_ => .d 4 rfl rfl (.d 8 rfl rfl (.nil))) (.s rfl (fun gs_ => .d 2 rfl rfl (.nil)) hb1) (fun _ => rfl) rfl (fun _ _ _ => rfl) (.x (f := fun gs_ => ⟨17, vBool, t2⟩) 0 (fun gs_ => [⟨9, vBool, p.main⟩, ⟨16, vBool, t2⟩]) rfl (fun gs_ => l_pickt (o_t rfl) hb1 (o_t rfl) (lt rfl)) (fun gs_ => .d 2 rfl rfl (.d 9 rfl rfl (.nil))) .n (fun _ => rfl) rfl (fun _ _ _ => rfl) (.x (f := fun gs_ => ⟨18, vBool, t2⟩) 0 (fun gs_ => [⟨17, vBool, t2⟩]) rfl (fun gs_ => l_move (o_t rfl) (lt rfl)) (fun gs_ => .d 10 rfl rfl (.nil)) .n (fun _ => rfl) rfl (fun _ _ _ => rfl) (.n (fun gs_ => ⟨18, vBool, t2⟩) rfl (fun _ => rfl) (fun gs_ => .d 11 rfl rfl (.nil)) (fun _ => noy_b (b := true) hb4) (lt rfl) (.n (fun gs_ => ⟨18, vBool, t2⟩) rfl (fun _ => rfl) (fun gs_ => .d 11 rfl rfl (.nil)) (fun _ => noy_b (b := true) hb4) (lt rfl) (.n (fun gs_ => ⟨18, vBool, t2⟩) rfl (fun _ => rfl) (fun gs_ => .d 11 rfl rfl (.nil)) (fun _ => noy_b (b := true) hb4) (lt rfl) (.n (fun gs_ => ⟨18, vBool, t2⟩) rfl (fun _ => rfl) (fun gs_ => .d 11 rfl rfl (.nil)) (fun _ => noy_b (b := true) hb4) (lt rfl) (.n (fun gs_ => ⟨18, vBool, t2⟩) rfl (fun _ => rfl) (fun gs_ => .d 11 rfl rfl (.nil)) (fun _ => noy_b (b := true) hb4) (lt rfl) (.n (fun gs_ => ⟨18, vBool, t2⟩) rfl (fun _ => rfl) (fun gs_ => .d 11 rfl rfl (.nil)) (fun _ => noy_b (b := true) hb4) (lt rfl) (.n (fun gs_ => ⟨18, vBool, t2⟩) rfl (fun _ => rfl) (fun gs_ => .d 11 rfl rfl (.nil)) (fun _ => noy_b (b := true) hb4) (lt rfl) (.n (fun gs_ => ⟨18, vBool, t2⟩) rfl (fun _ => rfl) (fun gs_ => .d 11 rfl rfl (.nil)) (fun _ => noy_b (b := true) hb4) (lt rfl) (.n (fun gs_ => ⟨18, vBool, t2⟩) rfl (fun _ => rfl) (fun gs_ => .d 11 rfl rfl (.nil)) (fun _ => noy_b (b := true) hb4) (lt rfl) (.n (fun gs_ => ⟨18, vBool, t2⟩) rfl (fun _ => rfl) (fun gs_ => .d 11 rfl rfl (.nil)) (fun _ => noy_b (b := true) hb4) (lt rfl) (.n (fun gs_ => ⟨18, vBool, t2⟩) rfl (fun _ => rfl) (fun gs_ => .d 11 rfl rfl (.nil)) (fun _ => noy_b (b := true) hb4) (lt rfl) (.n (fun gs_ => ⟨18, vBool, t2⟩) rfl (fun _ => rfl) (fun gs_ => .d 11 rfl rfl (.nil)) (fun _ => noy_b (b := true) hb4) (lt rfl) (.x (f := fun gs_ => ⟨31, vBool, false⟩) 0 (fun gs_ => [⟨18, vBool, t2⟩]) rfl (fun gs_ => l_pickf (o_t rfl) hb4 (o_b) (lt rfl)) (fun gs_ => .d 11 rfl rfl (.nil)) .n (fun _ => rfl) rfl (fun _ _ _ => rfl) (.x (f := fun gs_ => ⟨6, vBool, false⟩) 0 (fun gs_ => [⟨31, vBool, false⟩]) rfl (fun gs_ => l_assign (o_t rfl) (lt rfl)) (fun gs_ => .d 24 rfl rfl (.nil)) .n (fun _ => rfl) rfl (fun _ _ _ => rfl) (.nil))))))))))))))))))))))))))) (fun gs_ hgs_ => ?_)
      refine k_seq ?_
      cases hp_
      exact t_ret (k_ret () rfl rfl rfl rfl rfl)
    · rw [if_pos hb4] at hp_
      obtain ⟨t5, h6, hp_⟩ := bs hp_
      obtain ⟨t7, h8, hp_⟩ := bs hp_
      refine t_draw [(0, fun gs_ => some ⟨7, vPtr kBool, p.main⟩), (0, fun gs_ => some ⟨8, vBool, p.main⟩), (0, fun gs_ => some ⟨9, vBool, p.main⟩), (0, fun gs_ => some ⟨10, vPtr (kInt .i64), x.N⟩), (0, fun gs_ => some ⟨11, vInt .i64, x.N⟩), (0, fun gs_ => some ⟨12, vPtr k_aCode, l.c⟩), (0, fun gs_ => some ⟨13, vPtr (kSlice k_aAct), l.c.Acts⟩), (0, fun gs_ => some ⟨14, vSlice k_aAct, l.c.Acts⟩), (0, fun gs_ => some ⟨15, vInt .i64, (l.c.Acts.length : Int)⟩), (0, fun gs_ => some ⟨16, vBool, t2⟩), (0, fun gs_ => some ⟨17, vBool, t2⟩), (0, fun gs_ => some ⟨18, vBool, t2⟩), (0, fun gs_ => some ⟨19, (k_code_look).v, l⟩), (0, fun gs_ => some ⟨20, vPtr (kSlice (kInt .i64)), x.L⟩), (0, fun gs_ => some ⟨21, vSlice (kInt .i64), x.L⟩), (0, fun gs_ => some ⟨22, vPtr k_aCode, l.c⟩), (0, fun gs_ => some ⟨23, vPtr (kSlice k_aAct), l.c.Acts⟩), (0, fun gs_ => some ⟨24, vSlice k_aAct, l.c.Acts⟩), (0, fun gs_ => some ⟨25, vPtr (kInt .i64), x.N⟩), (0, fun gs_ => some ⟨26, vInt .i64, x.N⟩), (0, fun gs_ => some ⟨27, vPtr k_aAct, t5⟩), (0, fun gs_ => some ⟨28, vPtr (kSlice (kInt .i64)), t5.Params⟩), (0, fun gs_ => some ⟨29, vSlice (kInt .i64), t5.Params⟩), (0, fun gs_ => some ⟨30, vBool, t7⟩), (0, fun gs_ => some ⟨31, vBool, t7⟩), (0, fun gs_ => some ⟨6, vBool, t7⟩)] mixed rfl rfl (fun _ => []) [] rfl (.x (f := fun gs_ => ⟨7, vPtr kBool, p.main⟩) 0 (fun gs_ => [⟨5, vPtr k_code_place, p⟩]) rfl (fun gs_ => l_fa (o_t rfl) fl_code_place_2 fa117_2 (lt rfl)) (fun gs_ => .b rfl rfl (.nil)) .n (fun _ => rfl) rfl (fun _ _ _ => rfl) (.x (f := fun gs_ => ⟨8, vBool, p.main⟩) 0 (fun gs_ => [⟨7, vPtr kBool, p.main⟩]) rfl (fun gs_ => l_ld (o_t rfl) ty4 (lt rfl)) (fun gs_ => .d 0 rfl rfl (.nil)) .n (fun _ => rfl) rfl (fun _ _ _ => rfl) (.x (f := fun gs_ => ⟨9, vBool, p.main⟩) 0 (fun gs_ => [⟨8, vBool, p.main⟩]) rfl (fun gs_ => l_move (o_t rfl) (lt rfl)) (fun gs_ => .d 1 rfl rfl (.nil)) .n (fun _ => rfl) rfl (fun _ _ _ => rfl) (.x (f := fun gs_ => ⟨10, vPtr (kInt .i64), x.N⟩) 0 (fun gs_ => [⟨4, vPtr k_aIns, x⟩]) rfl (fun gs_ => l_fa (o_t rfl) fl_aIns_4 fa75_4 (lt rfl)) (fun gs_ => .b rfl rfl (.nil)) (.s rfl (fun gs_ => .d 2 rfl rfl (.nil)) hb1) (fun _ => rfl) rfl (fun _ _ _ => rfl) (.x (f := fun gs_ => ⟨11, vInt .i64, x.N⟩) 0 (fun gs_ => [⟨10, vPtr (kInt .i64), x.N⟩]) rfl (fun gs_ => l_ld (o_t rfl) ty3 (lt rfl)) (fun gs_ => .d 3 rfl rfl (.nil)) (.s rfl (fun gs_ => .d 2 rfl rfl (.nil)) hb1) (fun _ => rfl) rfl (fun _ _ _ => rfl) (.x (f := fun gs_ => ⟨12, vPtr k_aCode, l.c⟩) 0 (fun gs_ => [⟨3, vPtr k_code_look, l⟩]) rfl (fun gs_ => l_fa (o_t rfl) fl_code_look_0 fa51_0 (lt rfl)) (fun gs_ => .b rfl rfl (.nil)) (.s rfl (fun gs_ => .d 2 rfl rfl (.nil)) hb1) (fun _ => rfl) rfl (fun _ _ _ => rfl) (.x (f := fun gs_ => ⟨13, vPtr (kSlice k_aAct), l.c.Acts⟩) 0 (fun gs_ => [⟨12, vPtr k_aCode, l.c⟩]) rfl (fun gs_ => l_fa (o_t rfl) fl_aCode_5 fa30_5 (lt rfl)) (fun gs_ => .d 5 rfl rfl (.nil)) (.s rfl (fun gs_ => .d 2 rfl rfl (.nil)) hb1) (fun _ => rfl) rfl (fun _ _ _ => rfl) (.x (f := fun gs_ => ⟨14, vSlice k_aAct, l.c.Acts⟩) 0 (fun gs_ => [⟨13, vPtr (kSlice k_aAct), l.c.Acts⟩]) rfl (fun gs_ => l_ld (o_t rfl) ty26 (lt rfl)) (fun gs_ => .d 6 rfl rfl (.nil)) (.s rfl (fun gs_ => .d 2 rfl rfl (.nil)) hb1) (fun _ => rfl) rfl (fun _ _ _ => rfl) (.x (f := fun gs_ => ⟨15, vInt .i64, (l.c.Acts.length : Int)⟩) 0 (fun gs_ => [⟨14, vSlice k_aAct, l.c.Acts⟩]) rfl (fun gs_ => l_lens (o_t rfl) sl26 (lt rfl)) (fun gs_ => .d 7 rfl rfl (.nil)) (.s rfl (fun gs_ => .d 2 rfl rfl (.nil)) hb1) (fun _ => rfl) rfl (fun _ _ _ => rfl) (.x (f := fun gs_ => ⟨16, vBool, t2⟩) 0 (fun gs_ => [⟨11, vInt .i64, x.N⟩, ⟨15, vInt .i64, (l.c.Acts.length : Int)⟩]) rfl (fun gs_ => l_call (ok47 x.N (l.c.Acts.length : Int) _ h3) (.cons (o_t rfl) (.cons (o_t rfl) (.nil))) (lt rfl)) (fun gs_ => .d 4 rfl rfl (.d 8 rfl rfl (.nil))) (.s rfl (fun gs_ => .d 2 rfl rfl (.nil)) hb1) (fun _ => rfl) rfl (fun _ _ _ => rfl) (.x (f := fun gs_ => ⟨17, vBool, t2⟩) 0 (fun gs_ => [⟨9, vBool, p.main⟩, ⟨16, vBool, t2⟩]) rfl (fun gs_ => l_pickt (o_t rfl) hb1 (o_t rfl) (lt rfl)) (fun gs_ => .d 2 rfl rfl (.d 9 rfl rfl (.nil))) .n (fun _ => rfl) rfl (fun _ _ _ => rfl) (.x (f := fun gs_ => ⟨18, vBool, t2⟩) 0 (fun gs_ => [⟨17, vBool, t2⟩]) rfl (fun gs_ => l_move (o_t rfl) (lt rfl)) (fun gs_ => .d 10 rfl rfl (.nil)) .n (fun _ => rfl) rfl (fun _ _ _ => rfl) (.x (f := fun gs_ => ⟨19, (k_code_look).v, l⟩) 0 (fun gs_ => [⟨3, vPtr k_code_look, l⟩]) rfl (fun gs_ => l_ld (o_t rfl) ty51 (lt rfl)) (fun gs_ => .b rfl rfl (.nil)) (.s rfl (fun gs_ => .d 11 rfl rfl (.nil)) hb4) (fun _ => rfl) rfl (fun _ _ _ => rfl) (.x (f := fun gs_ => ⟨20, vPtr (kSlice (kInt .i64)), x.L⟩) 0 (fun gs_ => [⟨4, vPtr k_aIns, x⟩]) rfl (fun gs_ => l_fa (o_t rfl) fl_aIns_6 fa75_6 (lt rfl)) (fun gs_ => .b rfl rfl (.nil)) (.s rfl (fun gs_ => .d 11 rfl rfl (.nil)) hb4) (fun _ => rfl) rfl (fun _ _ _ => rfl) (.x (f := fun gs_ => ⟨21, vSlice (kInt .i64), x.L⟩) 0 (fun gs_ => [⟨20, vPtr (kSlice (kInt .i64)), x.L⟩]) rfl (fun gs_ => l_ld (o_t rfl) ty22 (lt rfl)) (fun gs_ => .d 13 rfl rfl (.nil)) (.s rfl (fun gs_ => .d 11 rfl rfl (.nil)) hb4) (fun _ => rfl) rfl (fun _ _ _ => rfl) (.x (f := fun gs_ => ⟨22, vPtr k_aCode, l.c⟩) 0 (fun gs_ => [⟨3, vPtr k_code_look, l⟩]) rfl (fun gs_ => l_fa (o_t rfl) fl_code_look_0 fa51_0 (lt rfl)) (fun gs_ => .b rfl rfl (.nil)) (.s rfl (fun gs_ => .d 11 rfl rfl (.nil)) hb4) (fun _ => rfl) rfl (fun _ _ _ => rfl) (.x (f := fun gs_ => ⟨23, vPtr (kSlice k_aAct), l.c.Acts⟩) 0 (fun gs_ => [⟨22, vPtr k_aCode, l.c⟩]) rfl (fun gs_ => l_fa (o_t rfl) fl_aCode_5 fa30_5 (lt rfl)) (fun gs_ => .d 15 rfl rfl (.nil)) (.s rfl (fun gs_ => .d 11 rfl rfl (.nil)) hb4) (fun _ => rfl) rfl (fun _ _ _ => rfl) (.x (f := fun gs_ => ⟨24, vSlice k_aAct, l.c.Acts⟩) 0 (fun gs_ => [⟨23, vPtr (kSlice k_aAct), l.c.Acts⟩]) rfl (fun gs_ => l_ld (o_t rfl) ty26 (lt rfl)) (fun gs_ => .d 16 rfl rfl (.nil)) (.s rfl (fun gs_ => .d 11 rfl rfl (.nil)) hb4) (fun _ => rfl) rfl (fun _ _ _ => rfl) (.x (f := fun gs_ => ⟨25, vPtr (kInt .i64), x.N⟩) 0 (fun gs_ => [⟨4, vPtr k_aIns, x⟩]) rfl (fun gs_ => l_fa (o_t rfl) fl_aIns_4 fa75_4 (lt rfl)) (fun gs_ => .b rfl rfl (.nil)) (.s rfl (fun gs_ => .d 11 rfl rfl (.nil)) hb4) (fun _ => rfl) rfl (fun _ _ _ => rfl) (.x (f := fun gs_ => ⟨26, vInt .i64, x.N⟩) 0 (fun gs_ => [⟨25, vPtr (kInt .i64), x.N⟩]) rfl (fun gs_ => l_ld (o_t rfl) ty3 (lt rfl)) (fun gs_ => .d 18 rfl rfl (.nil)) (.s rfl (fun gs_ => .d 11 rfl rfl (.nil)) hb4) (fun _ => rfl) rfl (fun _ _ _ => rfl) (.x (f := fun gs_ => ⟨27, vPtr k_aAct, t5⟩) 0 (fun gs_ => [⟨24, vSlice k_aAct, l.c.Acts⟩, ⟨26, vInt .i64, x.N⟩]) rfl (fun gs_ => l_ia (o_t rfl) (o_t rfl) h6 sl26 sz41 (lt rfl)) (fun gs_ => .d 17 rfl rfl (.d 19 rfl rfl (.nil))) (.s rfl (fun gs_ => .d 11 rfl rfl (.nil)) hb4) (fun _ => rfl) rfl (fun _ _ _ => rfl) (.x (f := fun gs_ => ⟨28, vPtr (kSlice (kInt .i64)), t5.Params⟩) 0 (fun gs_ => [⟨27, vPtr k_aAct, t5⟩]) rfl (fun gs_ => l_fa (o_t rfl) fl_aAct_1 fa41_1 (lt rfl)) (fun gs_ => .d 20 rfl rfl (.nil)) (.s rfl (fun gs_ => .d 11 rfl rfl (.nil)) hb4) (fun _ => rfl) rfl (fun _ _ _ => rfl) (.x (f := fun gs_ => ⟨29, vSlice (kInt .i64), t5.Params⟩) 0 (fun gs_ => [⟨28, vPtr (kSlice (kInt .i64)), t5.Params⟩]) rfl (fun gs_ => l_ld (o_t rfl) ty22 (lt rfl)) (fun gs_ => .d 21 rfl rfl (.nil)) (.s rfl (fun gs_ => .d 11 rfl rfl (.nil)) hb4) (fun _ => rfl) rfl (fun _ _ _ => rfl) (.x (f := fun gs_ => ⟨30, vBool, t7⟩) 0 (fun gs_ => [⟨19, (k_code_look).v, l⟩, ⟨21, vSlice (kInt .i64), x.L⟩, ⟨29, vSlice (kInt .i64), t5.Params⟩]) rfl (fun gs_ => l_call (ok100 l x.L t5.Params _ h8) (.cons (o_t rfl) (.cons (o_t rfl) (.cons (o_t rfl) (.nil)))) (lt rfl)) (fun gs_ => .d 12 rfl rfl (.d 14 rfl rfl (.d 22 rfl rfl (.nil)))) (.s rfl (fun gs_ => .d 11 rfl rfl (.nil)) hb4) (fun _ => rfl) rfl (fun _ _ _ => rfl) (.x (f := fun gs_ => ⟨31, vBool, t7⟩) 0 (fun gs_ => [⟨18, vBool, t2⟩, ⟨30, vBool, t7⟩]) rfl (fun gs_ => l_pickt (o_t rfl) hb4 (o_t rfl) (lt rfl)) (fun gs_ => .d 11 rfl rfl (.d 23 rfl rfl (.nil))) .n (fun _ => rfl) rfl (fun _ _ _ => rfl) (.x (f := fun gs_ => ⟨6, vBool, t7⟩) 0 (fun gs_ => [⟨31, vBool, t7⟩]) rfl (fun gs_ => l_assign (o_t rfl) (lt rfl)) (fun gs_ => .d 24 rfl rfl (.nil)) .n (fun _ => rfl) rfl (fun _ _ _ => rfl) (.nil))))))))))))))))))))))))))) (fun gs_ hgs_ => ?_)
      refine k_seq ?_
      cases hp_
      exact t_ret (k_ret () rfl rfl rfl rfl rfl)
-- pointsman/code.rows$16
theorem ok101 (l : code_look) (x : aIns) (p : code_place) (y_ : Bool) (hp_ : code_rows_16 l x p = some y_) : FP Tryz.prog 101 [⟨(k_code_look).v, l⟩, ⟨(k_aIns).v, x⟩, ⟨(k_code_place).v, p⟩] vBool y_ := by
  unfold code_rows_16 at hp_
  refine fc_of 19 Tryz.func101 rfl fn101 rfl (Nat.le_of_ble_eq_true rfl) fun I_ w_ F_ => ?_
  refine t_seq ?_
  refine t_reg ?_
  refine st (l_box (o_t rfl) (lt rfl)) ?_
  refine st (l_box (o_t rfl) (lt rfl)) ?_
  refine st (l_box (o_t rfl) (lt rfl)) ?_
  refine st (l_assign (o_b) (lt rfl)) ?_
  refine r_nil (k_seq ?_)
  refine t_seq ?_
  refine t_reg ?_
  refine st (l_fa (o_t rfl) fl_aIns_4 fa75_4 (lt rfl)) ?_
  refine st (l_ld (o_t rfl) ty3 (lt rfl)) ?_
  refine st (l_fa (o_t rfl) fl_code_place_0 fa117_0 (lt rfl)) ?_
  refine st (l_ld (o_t rfl) ty3 (lt rfl)) ?_
  refine st (l_cmp (o_t rfl) (o_t rfl) .gtr (lt rfl)) ?_
  refine st (l_move (o_t rfl) (lt rfl)) ?_
  rcases bt (decide (x.N > p.at_)) with hb1 | hb1
  · rw [if_neg (nt hb1)] at hp_
    refine g_n ⟨12, vBool, decide (x.N > p.at_)⟩ rfl rfl (noy_b (b := true) hb1) (lt rfl) ?_
    refine g_n ⟨12, vBool, decide (x.N > p.at_)⟩ rfl rfl (noy_b (b := true) hb1) (lt rfl) ?_
    refine g_n ⟨12, vBool, decide (x.N > p.at_)⟩ rfl rfl (noy_b (b := true) hb1) (lt rfl) ?_
    refine g_n ⟨12, vBool, decide (x.N > p.at_)⟩ rfl rfl (noy_b (b := true) hb1) (lt rfl) ?_
    refine g_n ⟨12, vBool, decide (x.N > p.at_)⟩ rfl rfl (noy_b (b := true) hb1) (lt rfl) ?_
    refine st (l_pickf (o_t rfl) hb1 (o_b) (lt rfl)) ?_
    refine st (l_assign (o_t rfl) (lt rfl)) ?_
    refine r_nil (k_seq ?_)
    cases hp_
    exact t_ret (k_ret () rfl rfl rfl rfl rfl)
  · rw [if_pos hb1] at hp_
    refine g_t rfl rfl hb1 ?_
    refine st (l_fa (o_t rfl) fl_aIns_4 fa75_4 (lt rfl)) ?_
    refine g_t rfl rfl hb1 ?_
    refine st (l_ld (o_t rfl) ty3 (lt rfl)) ?_
    refine g_t rfl rfl hb1 ?_
    refine st (l_fa (o_t rfl) fl_code_place_1 fa117_1 (lt rfl)) ?_
    refine g_t rfl rfl hb1 ?_
    refine st (l_ld (o_t rfl) ty3 (lt rfl)) ?_
    refine g_t rfl rfl hb1 ?_
    refine st (l_cmp (o_t rfl) (o_t rfl) .leq (lt rfl)) ?_
    refine st (l_pickt (o_t rfl) hb1 (o_t rfl) (lt rfl)) ?_
    refine st (l_assign (o_t rfl) (lt rfl)) ?_
    refine r_nil (k_seq ?_)
    cases hp_
    exact t_ret (k_ret () rfl rfl rfl rfl rfl)
-- pointsman/code.rows$17
theorem ok102 (l : code_look) (x : aIns) (p : code_place) (y_ : Bool) (hp_ : code_rows_17 l x p = some y_) : FP Tryz.prog 102 [⟨(k_code_look).v, l⟩, ⟨(k_aIns).v, x⟩, ⟨(k_code_place).v, p⟩] vBool y_ := by
  unfold code_rows_17 at hp_
  refine fc_of 25 Tryz.func102 rfl fn102 rfl (Nat.le_of_ble_eq_true rfl) fun I_ w_ F_ => ?_
  refine t_seq ?_
  refine t_reg ?_
  refine st (l_box (o_t rfl) (lt rfl)) ?_
  refine st (l_box (o_t rfl) (lt rfl)) ?_
  refine st (l_box (o_t rfl) (lt rfl)) ?_
  refine st (l_assign (o_b) (lt rfl)) ?_
  refine r_nil (k_seq ?_)
  refine t_seq ?_
  refine t_reg ?_
  refine st (l_fa (o_t rfl) fl_aIns_4 fa75_4 (lt rfl)) ?_
  refine st (l_ld (o_t rfl) ty3 (lt rfl)) ?_
  refine st (l_fa (o_t rfl) fl_code_place_0 fa117_0 (lt rfl)) ?_
  refine st (l_ld (o_t rfl) ty3 (lt rfl)) ?_
  refine st (l_cmp (o_t rfl) (o_t rfl) .gtr (lt rfl)) ?_
  refine st (l_move (o_t rfl) (lt rfl)) ?_
  rcases bt (decide (x.N > p.at_)) with hb1 | hb1
  · rw [if_neg (nt hb1)] at hp_
    refine g_n ⟨12, vBool, decide (x.N > p.at_)⟩ rfl rfl (noy_b (b := true) hb1) (lt rfl) ?_
    refine g_n ⟨12, vBool, decide (x.N > p.at_)⟩ rfl rfl (noy_b (b := true) hb1) (lt rfl) ?_
    refine g_n ⟨12, vBool, decide (x.N > p.at_)⟩ rfl rfl (noy_b (b := true) hb1) (lt rfl) ?_
    refine g_n ⟨12, vBool, decide (x.N > p.at_)⟩ rfl rfl (noy_b (b := true) hb1) (lt rfl) ?_
    refine g_n ⟨12, vBool, decide (x.N > p.at_)⟩ rfl rfl (noy_b (b := true) hb1) (lt rfl) ?_
    refine st (l_pickf (o_t rfl) hb1 (o_b) (lt rfl)) ?_
    refine st (l_move (o_t rfl) (lt rfl)) ?_
    refine g_n ⟨19, vBool, false⟩ rfl rfl (noy_b (b := true) rfl) (lt rfl) ?_
    refine g_n ⟨19, vBool, false⟩ rfl rfl (noy_b (b := true) rfl) (lt rfl) ?_
    refine g_n ⟨19, vBool, false⟩ rfl rfl (noy_b (b := true) rfl) (lt rfl) ?_
    refine g_n ⟨19, vBool, false⟩ rfl rfl (noy_b (b := true) rfl) (lt rfl) ?_
    refine st (l_pickf (o_t rfl) rfl (o_b) (lt rfl)) ?_
    refine st (l_assign (o_t rfl) (lt rfl)) ?_
    refine r_nil (k_seq ?_)
    cases hp_
    exact t_ret (k_ret () rfl rfl rfl rfl rfl)
  · rw [if_pos hb1] at hp_
    refine g_t rfl rfl hb1 ?_
    refine st (l_fa (o_t rfl) fl_aIns_4 fa75_4 (lt rfl)) ?_
    refine g_t rfl rfl hb1 ?_
    refine st (l_ld (o_t rfl) ty3 (lt rfl)) ?_
    refine g_t rfl rfl hb1 ?_
    refine st (l_fa (o_t rfl) fl_code_place_1 fa117_1 (lt rfl)) ?_
    refine g_t rfl rfl hb1 ?_
    refine st (l_ld (o_t rfl) ty3 (lt rfl)) ?_
    refine g_t rfl rfl hb1 ?_
    refine st (l_cmp (o_t rfl) (o_t rfl) .leq (lt rfl)) ?_
    refine st (l_pickt (o_t rfl) hb1 (o_t rfl) (lt rfl)) ?_
    refine st (l_move (o_t rfl) (lt rfl)) ?_
    rcases bt (decide (x.N ≤ p.long)) with hb2 | hb2
    · rw [if_neg (nt hb2)] at hp_
      refine g_n ⟨19, vBool, decide (x.N ≤ p.long)⟩ rfl rfl (noy_b (b := true) hb2) (lt rfl) ?_
      refine g_n ⟨19, vBool, decide (x.N ≤ p.long)⟩ rfl rfl (noy_b (b := true) hb2) (lt rfl) ?_
      refine g_n ⟨19, vBool, decide (x.N ≤ p.long)⟩ rfl rfl (noy_b (b := true) hb2) (lt rfl) ?_
      refine g_n ⟨19, vBool, decide (x.N ≤ p.long)⟩ rfl rfl (noy_b (b := true) hb2) (lt rfl) ?_
      refine st (l_pickf (o_t rfl) hb2 (o_b) (lt rfl)) ?_
      refine st (l_assign (o_t rfl) (lt rfl)) ?_
      refine r_nil (k_seq ?_)
      cases hp_
      exact t_ret (k_ret () rfl rfl rfl rfl rfl)
    · rw [if_pos hb2] at hp_
      refine g_t rfl rfl hb2 ?_
      refine st (l_ld (o_t rfl) ty51 (lt rfl)) ?_
      refine g_t rfl rfl hb2 ?_
      refine st (l_fa (o_t rfl) fl_aIns_2 fa75_2 (lt rfl)) ?_
      refine g_t rfl rfl hb2 ?_
      refine st (l_ld (o_t rfl) ty3 (lt rfl)) ?_
      refine g_t rfl rfl hb2 ?_
      obtain ⟨t3, h4, hp_⟩ := bs hp_
      refine st (l_call (ok45 l x.A (1 : Int) _ h4) (.cons (o_t rfl) (.cons (o_t rfl) (.cons (o_i) (.nil)))) (lt rfl)) ?_
      refine st (l_pickt (o_t rfl) hb2 (o_t rfl) (lt rfl)) ?_
      refine st (l_assign (o_t rfl) (lt rfl)) ?_
      refine r_nil (k_seq ?_)
      cases hp_
      exact t_ret (k_ret () rfl rfl rfl rfl rfl)
-- pointsman/code.rows
theorem ok63  (y_ : List code_row) (hp_ : code_rows  = some y_) : FP Tryz.prog 63 [] (vSlice k_code_row) y_ := by
  unfold code_rows at hp_
  refine fc_of 23 Tryz.func63 rfl fn63 rfl (Nat.le_of_ble_eq_true rfl) fun I_ w_ F_ => ?_
  refine t_seq ?_
  refine t_reg ?_
  refine st (l_assign (o_nil (K := k_code_row)) (lt rfl)) ?_
  refine r_nil (k_seq ?_)
  refine t_seq ?_
  refine t_reg ?_
  refine st (l_build zr113 (.cons (o_i) fl_code_row_0 ft113_0 (.cons (o_s) fl_code_row_1 ft113_1 (.cons (o_b) fl_code_row_2 ft113_2 (.cons (o_clo (o_fk) fn81 (fun x_ y h => ok81 x_.1 x_.2.1 x_.2.2 _ h)) fl_code_row_3 ft113_3 (.nil))))) rfl stb113 (lt rfl)) ?_
  refine st (l_build zr113 (.cons (o_i) fl_code_row_0 ft113_0 (.cons (o_s) fl_code_row_1 ft113_1 (.cons (o_b) fl_code_row_2 ft113_2 (.cons (o_clo (o_fk) fn82 (fun x_ y h => ok82 x_.1 x_.2.1 x_.2.2 _ h)) fl_code_row_3 ft113_3 (.nil))))) rfl stb113 (lt rfl)) ?_
  refine st (l_build zr113 (.cons (o_i) fl_code_row_0 ft113_0 (.cons (o_s) fl_code_row_1 ft113_1 (.cons (o_b) fl_code_row_2 ft113_2 (.cons (o_clo (o_fk) fn83 (fun x_ y h => ok83 x_.1 x_.2.1 x_.2.2 _ h)) fl_code_row_3 ft113_3 (.nil))))) rfl stb113 (lt rfl)) ?_
  refine st (l_build zr113 (.cons (o_i) fl_code_row_0 ft113_0 (.cons (o_s) fl_code_row_1 ft113_1 (.cons (o_b) fl_code_row_2 ft113_2 (.cons (o_clo (o_fk) fn84 (fun x_ y h => ok84 x_.1 x_.2.1 x_.2.2 _ h)) fl_code_row_3 ft113_3 (.nil))))) rfl stb113 (lt rfl)) ?_
  refine st (l_build zr113 (.cons (o_i) fl_code_row_0 ft113_0 (.cons (o_s) fl_code_row_1 ft113_1 (.cons (o_b) fl_code_row_2 ft113_2 (.cons (o_clo (o_fk) fn86 (fun x_ y h => ok86 x_.1 x_.2.1 x_.2.2 _ h)) fl_code_row_3 ft113_3 (.nil))))) rfl stb113 (lt rfl)) ?_
  refine st (l_build zr113 (.cons (o_i) fl_code_row_0 ft113_0 (.cons (o_s) fl_code_row_1 ft113_1 (.cons (o_b) fl_code_row_2 ft113_2 (.cons (o_clo (o_fk) fn87 (fun x_ y h => ok87 x_.1 x_.2.1 x_.2.2 _ h)) fl_code_row_3 ft113_3 (.nil))))) rfl stb113 (lt rfl)) ?_
  refine st (l_build zr113 (.cons (o_i) fl_code_row_0 ft113_0 (.cons (o_s) fl_code_row_1 ft113_1 (.cons (o_b) fl_code_row_2 ft113_2 (.cons (o_clo (o_fk) fn88 (fun x_ y h => ok88 x_.1 x_.2.1 x_.2.2 _ h)) fl_code_row_3 ft113_3 (.nil))))) rfl stb113 (lt rfl)) ?_
  refine st (l_build zr113 (.cons (o_i) fl_code_row_0 ft113_0 (.cons (o_s) fl_code_row_1 ft113_1 (.cons (o_b) fl_code_row_2 ft113_2 (.cons (o_clo (o_fk) fn89 (fun x_ y h => ok89 x_.1 x_.2.1 x_.2.2 _ h)) fl_code_row_3 ft113_3 (.nil))))) rfl stb113 (lt rfl)) ?_
  refine st (l_build zr113 (.cons (o_i) fl_code_row_0 ft113_0 (.cons (o_s) fl_code_row_1 ft113_1 (.cons (o_b) fl_code_row_2 ft113_2 (.cons (o_clo (o_fk) fn91 (fun x_ y h => ok91 x_.1 x_.2.1 x_.2.2 _ h)) fl_code_row_3 ft113_3 (.nil))))) rfl stb113 (lt rfl)) ?_
  refine st (l_build zr113 (.cons (o_i) fl_code_row_0 ft113_0 (.cons (o_s) fl_code_row_1 ft113_1 (.cons (o_b) fl_code_row_2 ft113_2 (.cons (o_clo (o_fk) fn92 (fun x_ y h => ok92 x_.1 x_.2.1 x_.2.2 _ h)) fl_code_row_3 ft113_3 (.nil))))) rfl stb113 (lt rfl)) ?_
  refine st (l_build zr113 (.cons (o_i) fl_code_row_0 ft113_0 (.cons (o_s) fl_code_row_1 ft113_1 (.cons (o_b) fl_code_row_2 ft113_2 (.cons (o_clo (o_fk) fn93 (fun x_ y h => ok93 x_.1 x_.2.1 x_.2.2 _ h)) fl_code_row_3 ft113_3 (.nil))))) rfl stb113 (lt rfl)) ?_
  refine st (l_build zr113 (.cons (o_i) fl_code_row_0 ft113_0 (.cons (o_s) fl_code_row_1 ft113_1 (.cons (o_b) fl_code_row_2 ft113_2 (.cons (o_clo (o_fk) fn94 (fun x_ y h => ok94 x_.1 x_.2.1 x_.2.2 _ h)) fl_code_row_3 ft113_3 (.nil))))) rfl stb113 (lt rfl)) ?_
  refine st (l_build zr113 (.cons (o_i) fl_code_row_0 ft113_0 (.cons (o_s) fl_code_row_1 ft113_1 (.cons (o_b) fl_code_row_2 ft113_2 (.cons (o_clo (o_fk) fn95 (fun x_ y h => ok95 x_.1 x_.2.1 x_.2.2 _ h)) fl_code_row_3 ft113_3 (.nil))))) rfl stb113 (lt rfl)) ?_
  refine st (l_build zr113 (.cons (o_i) fl_code_row_0 ft113_0 (.cons (o_s) fl_code_row_1 ft113_1 (.cons (o_b) fl_code_row_2 ft113_2 (.cons (o_clo (o_fk) fn95 (fun x_ y h => ok95 x_.1 x_.2.1 x_.2.2 _ h)) fl_code_row_3 ft113_3 (.nil))))) rfl stb113 (lt rfl)) ?_
  refine st (l_build zr113 (.cons (o_i) fl_code_row_0 ft113_0 (.cons (o_s) fl_code_row_1 ft113_1 (.cons (o_b) fl_code_row_2 ft113_2 (.cons (o_clo (o_fk) fn95 (fun x_ y h => ok95 x_.1 x_.2.1 x_.2.2 _ h)) fl_code_row_3 ft113_3 (.nil))))) rfl stb113 (lt rfl)) ?_
  refine st (l_build zr113 (.cons (o_i) fl_code_row_0 ft113_0 (.cons (o_s) fl_code_row_1 ft113_1 (.cons (o_b) fl_code_row_2 ft113_2 (.cons (o_clo (o_fk) fn96 (fun x_ y h => ok96 x_.1 x_.2.1 x_.2.2 _ h)) fl_code_row_3 ft113_3 (.nil))))) rfl stb113 (lt rfl)) ?_
  refine st (l_build zr113 (.cons (o_i) fl_code_row_0 ft113_0 (.cons (o_s) fl_code_row_1 ft113_1 (.cons (o_b) fl_code_row_2 ft113_2 (.cons (o_clo (o_fk) fn97 (fun x_ y h => ok97 x_.1 x_.2.1 x_.2.2 _ h)) fl_code_row_3 ft113_3 (.nil))))) rfl stb113 (lt rfl)) ?_
  refine st (l_build zr113 (.cons (o_i) fl_code_row_0 ft113_0 (.cons (o_s) fl_code_row_1 ft113_1 (.cons (o_b) fl_code_row_2 ft113_2 (.cons (o_clo (o_fk) fn98 (fun x_ y h => ok98 x_.1 x_.2.1 x_.2.2 _ h)) fl_code_row_3 ft113_3 (.nil))))) rfl stb113 (lt rfl)) ?_
  refine st (l_build zr113 (.cons (o_i) fl_code_row_0 ft113_0 (.cons (o_s) fl_code_row_1 ft113_1 (.cons (o_b) fl_code_row_2 ft113_2 (.cons (o_clo (o_fk) fn99 (fun x_ y h => ok99 x_.1 x_.2.1 x_.2.2 _ h)) fl_code_row_3 ft113_3 (.nil))))) rfl stb113 (lt rfl)) ?_
  refine st (l_build zr113 (.cons (o_i) fl_code_row_0 ft113_0 (.cons (o_s) fl_code_row_1 ft113_1 (.cons (o_b) fl_code_row_2 ft113_2 (.cons (o_clo (o_fk) fn101 (fun x_ y h => ok101 x_.1 x_.2.1 x_.2.2 _ h)) fl_code_row_3 ft113_3 (.nil))))) rfl stb113 (lt rfl)) ?_
  refine st (l_build zr113 (.cons (o_i) fl_code_row_0 ft113_0 (.cons (o_s) fl_code_row_1 ft113_1 (.cons (o_b) fl_code_row_2 ft113_2 (.cons (o_clo (o_fk) fn102 (fun x_ y h => ok102 x_.1 x_.2.1 x_.2.2 _ h)) fl_code_row_3 ft113_3 (.nil))))) rfl stb113 (lt rfl)) ?_
  refine st (l_bslice (.cons (o_t rfl) (.cons (o_t rfl) (.cons (o_t rfl) (.cons (o_t rfl) (.cons (o_t rfl) (.cons (o_t rfl) (.cons (o_t rfl) (.cons (o_t rfl) (.cons (o_t rfl) (.cons (o_t rfl) (.cons (o_t rfl) (.cons (o_t rfl) (.cons (o_t rfl) (.cons (o_t rfl) (.cons (o_t rfl) (.cons (o_t rfl) (.cons (o_t rfl) (.cons (o_t rfl) (.cons (o_t rfl) (.cons (o_t rfl) (.cons (o_t rfl) (.nil)))))))))))))))))))))) rfl (Nat.le_of_ble_eq_true rfl) (lt rfl) sl108 zb113 sz113 (lt rfl)) ?_
  refine st (l_assign (o_t rfl) (lt rfl)) ?_
  refine r_nil (k_seq ?_)
  cases hp_
  exact t_ret (k_ret () rfl rfl rfl rfl rfl)
-- (pointsman/code.look).code$1
theorem ok65_0 (r_0 : code_row) (p1 : List aIns) (p2 : Int) (y_ : Bool) (hp_ : code_look_code_1 r_0 p1 p2 = some y_) : FP Tryz.prog 65 [⟨(k_code_row).v, r_0⟩, ⟨vPtr (kSlice k_aIns), p1⟩, ⟨vPtr (kInt .i64), p2⟩] vBool y_ := by
  unfold code_look_code_1 at hp_
  refine fc_of 13 Tryz.func65 rfl fn65 rfl (Nat.le_of_ble_eq_true rfl) fun I_ w_ F_ => ?_
  refine t_seq ?_
  refine t_reg ?_
  refine st (l_box (o_t rfl) (lt rfl)) ?_
  refine st (l_assign (o_b) (lt rfl)) ?_
  refine r_nil (k_seq ?_)
  refine t_seq ?_
  obtain ⟨t1, h2, hp_⟩ := bs hp_
  refine t_draw [(0, fun gs_ => some ⟨5, vPtr (kInt .u8), r_0.op⟩), (0, fun gs_ => some ⟨6, vInt .u8, r_0.op⟩), (0, fun gs_ => some ⟨7, vSlice k_aIns, p1⟩), (0, fun gs_ => some ⟨8, vInt .i64, p2⟩), (0, fun gs_ => some ⟨9, vPtr k_aIns, t1⟩), (0, fun gs_ => some ⟨10, vPtr (kInt .u8), t1.Op⟩), (0, fun gs_ => some ⟨11, vInt .u8, t1.Op⟩), (0, fun gs_ => some ⟨12, vBool, r_0.op == t1.Op⟩), (0, fun gs_ => some ⟨4, vBool, r_0.op == t1.Op⟩)] mixed rfl rfl (fun _ => []) [] rfl (.x (f := fun gs_ => ⟨5, vPtr (kInt .u8), r_0.op⟩) 0 (fun gs_ => [⟨3, vPtr k_code_row, r_0⟩]) rfl (fun gs_ => l_fa (o_t rfl) fl_code_row_0 fa113_0 (lt rfl)) (fun gs_ => .b rfl rfl (.nil)) .n (fun _ => rfl) rfl (fun _ _ _ => rfl) (.x (f := fun gs_ => ⟨6, vInt .u8, r_0.op⟩) 0 (fun gs_ => [⟨5, vPtr (kInt .u8), r_0.op⟩]) rfl (fun gs_ => l_ld (o_t rfl) ty69 (lt rfl)) (fun gs_ => .d 0 rfl rfl (.nil)) .n (fun _ => rfl) rfl (fun _ _ _ => rfl) (.x (f := fun gs_ => ⟨7, vSlice k_aIns, p1⟩) 0 (fun gs_ => [⟨1, vPtr (kSlice k_aIns), p1⟩]) rfl (fun gs_ => l_ld (o_t rfl) ty25 (lt rfl)) (fun gs_ => .b rfl rfl (.nil)) .n (fun _ => rfl) rfl (fun _ _ _ => rfl) (.x (f := fun gs_ => ⟨8, vInt .i64, p2⟩) 0 (fun gs_ => [⟨2, vPtr (kInt .i64), p2⟩]) rfl (fun gs_ => l_ld (o_t rfl) ty3 (lt rfl)) (fun gs_ => .b rfl rfl (.nil)) .n (fun _ => rfl) rfl (fun _ _ _ => rfl) (.x (f := fun gs_ => ⟨9, vPtr k_aIns, t1⟩) 0 (fun gs_ => [⟨7, vSlice k_aIns, p1⟩, ⟨8, vInt .i64, p2⟩]) rfl (fun gs_ => l_ia (o_t rfl) (o_t rfl) h2 sl25 sz75 (lt rfl)) (fun gs_ => .d 2 rfl rfl (.d 3 rfl rfl (.nil))) .n (fun _ => rfl) rfl (fun _ _ _ => rfl) (.x (f := fun gs_ => ⟨10, vPtr (kInt .u8), t1.Op⟩) 0 (fun gs_ => [⟨9, vPtr k_aIns, t1⟩]) rfl (fun gs_ => l_fa (o_t rfl) fl_aIns_0 fa75_0 (lt rfl)) (fun gs_ => .d 4 rfl rfl (.nil)) .n (fun _ => rfl) rfl (fun _ _ _ => rfl) (.x (f := fun gs_ => ⟨11, vInt .u8, t1.Op⟩) 0 (fun gs_ => [⟨10, vPtr (kInt .u8), t1.Op⟩]) rfl (fun gs_ => l_ld (o_t rfl) ty69 (lt rfl)) (fun gs_ => .d 5 rfl rfl (.nil)) .n (fun _ => rfl) rfl (fun _ _ _ => rfl) (.x (f := fun gs_ => ⟨12, vBool, r_0.op == t1.Op⟩) 0 (fun gs_ => [⟨6, vInt .u8, r_0.op⟩, ⟨11, vInt .u8, t1.Op⟩]) rfl (fun gs_ => l_cmp (o_t rfl) (o_t rfl) .eql (lt rfl)) (fun gs_ => .d 1 rfl rfl (.d 6 rfl rfl (.nil))) .n (fun _ => rfl) rfl (fun _ _ _ => rfl) (.x (f := fun gs_ => ⟨4, vBool, r_0.op == t1.Op⟩) 0 (fun gs_ => [⟨12, vBool, r_0.op == t1.Op⟩]) rfl (fun gs_ => l_assign (o_t rfl) (lt rfl)) (fun gs_ => .d 7 rfl rfl (.nil)) .n (fun _ => rfl) rfl (fun _ _ _ => rfl) (.nil)))))))))) (fun gs_ hgs_ => ?_)
  refine k_seq ?_
  cases hp_
  exact t_ret (k_ret () rfl rfl rfl rfl rfl)
-- slices.IndexFunc[[]pointsman/code.row,pointsman/code.row]
theorem ok64 (s : List code_row) (f : code_row → Option Bool) (y_ : Int) (hp_ : slices_IndexFunc_49 s f = some y_) : FP Tryz.prog 64 [⟨vSlice k_code_row, s⟩, ⟨vClo Tryz.prog (fun x : code_row => [⟨(k_code_row).v, x⟩]) vBool, f⟩] (vInt .i64) y_ := by
  unfold slices_IndexFunc_49 at hp_
  refine fc_of 19 Tryz.func64 rfl fn64 rfl (Nat.le_of_ble_eq_true rfl) fun I_ w_ F_ => ?_
  refine t_seq ?_
  refine t_reg ?_
  refine st (l_assign (o_i) (lt rfl)) ?_
  refine r_nil (k_seq ?_)
  refine t_seq ?_
  refine t_seq ?_
  refine t_reg ?_
  refine st (l_move (o_t rfl) (lt rfl)) ?_
  refine st (l_lens (o_t rfl) sl108 (lt rfl)) ?_
  refine st (l_move (o_i) (lt rfl)) ?_
  refine r_nil (k_seq ?_)
  obtain ⟨res1_, hl1_0, hx1_⟩ := bs hp_
  clear hp_
  refine t_sub (Γ' := [⟨8, vInt .i64, (0 : Int)⟩, ⟨0, vSlice k_code_row, s⟩, ⟨1, vClo Tryz.prog (fun x : code_row => [⟨(k_code_row).v, x⟩]) vBool, f⟩, ⟨7, vInt .i64, (s.length : Int)⟩]) (Sub.cons rfl (Sub.cons rfl (Sub.cons rfl (Sub.cons rfl (Sub.nil _))))) ?_
  refine t_bloop (β := Nat × Int) (σ := Unit) (fun x_ => [⟨8, vInt .i64, x_.2⟩, ⟨0, vSlice k_code_row, s⟩, ⟨1, vClo Tryz.prog (fun x : code_row => [⟨(k_code_row).v, x⟩]) vBool, f⟩, ⟨7, vInt .i64, (s.length : Int)⟩]) (fun x_ => []) (fun x_ => slices_IndexFunc_49.l1 x_.1 s f x_.2 = some res1_) (fun x_ => x_.1) (fun x_ => []) (fun x_ => []) (fun x_ => res1_ = .go x_) ?_ ?_ ((((s.length : Int) - (0 : Int)).toNat + 1), (0 : Int)) hl1_0
  · rintro ⟨k1_, v8_1⟩ hl1_
    rcases k1_ with _ | k1_
    · exact absurd (show none = some res1_ from hl1_) (by simp)
    replace hl1_ : slices_IndexFunc_49.l1 (k1_ + 1) s f v8_1 = some res1_ := hl1_
    rw [slices_IndexFunc_49.l1.eq_2] at hl1_
    show Tr Tryz.prog _ [⟨8, vInt .i64, v8_1⟩, ⟨0, vSlice k_code_row, s⟩, ⟨1, vClo Tryz.prog (fun x : code_row => [⟨(k_code_row).v, x⟩]) vBool, f⟩, ⟨7, vInt .i64, (s.length : Int)⟩] [] _ _
    refine t_seq ?_
    refine t_reg ?_
    refine st (l_cmp (o_t rfl) (o_t rfl) .lss (lt rfl)) ?_
    refine r_nil (k_seq ?_)
    refine t_seq ?_
    rcases bt (decide (v8_1 < (s.length : Int))) with hb1 | hb1
    · rw [if_neg (nt hb1)] at hl1_
      refine t_iff (o_t rfl) hb1 ?_
      exact t_exit (k_te <| k_te <| k_be <| k_brk () (Option.some.inj hl1_).symm (Sub.nil _) rfl)
    · rw [if_pos hb1] at hl1_
      refine t_ift (o_t rfl) hb1 ?_
      refine t_skip (k_seq ?_)
      refine t_seq ?_
      refine t_blk ?_
      refine t_seq ?_
      refine t_reg ?_
      refine st (l_move (o_t rfl) (lt rfl)) ?_
      refine st (l_assign (o_t rfl) (lt rfl)) ?_
      refine r_nil (k_seq ?_)
      refine t_seq ?_
      refine t_reg ?_
      refine st (l_move (o_t rfl) (lt rfl)) ?_
      refine st (l_move (o_t rfl) (lt rfl)) ?_
      refine st (l_move (o_t rfl) (lt rfl)) ?_
      obtain ⟨t2, h3, hl1_⟩ := bs hl1_
      refine st (l_ia (o_t rfl) (o_t rfl) h3 sl108 sz113 (lt rfl)) ?_
      refine st (l_ld (o_t rfl) ty113 (lt rfl)) ?_
      obtain ⟨t4, h5, hl1_⟩ := bs hl1_
      refine st (l_callc (o_t rfl) (x := t2) (.cons (o_t rfl) (.nil)) h5 (lt rfl)) ?_
      refine r_nil (k_seq ?_)
      rcases bt (t4) with hb6 | hb6
      · rw [if_neg (nt hb6)] at hl1_
        refine t_iff (o_t rfl) hb6 ?_
        refine t_skip (k_bn <| k_seq ?_)
        refine t_reg ?_
        refine st (l_bin (o_t rfl) (o_i) .add (lt rfl)) ?_
        refine st (l_move (o_t rfl) (lt rfl)) ?_
        exact r_nil (k_again (k1_, IntKind.wrap .i64 (v8_1 + (1 : Int))) hl1_ (Nat.lt_succ_self _) (Sub.cons rfl (Sub.cons rfl (Sub.cons rfl (Sub.cons rfl (Sub.nil _))))) rfl)
      · rw [if_pos hb6] at hl1_
        refine t_ift (o_t rfl) hb6 ?_
        refine t_seq ?_
        refine t_reg ?_
        refine st (l_move (o_t rfl) (lt rfl)) ?_
        refine st (l_assign (o_t rfl) (lt rfl)) ?_
        refine r_nil (k_seq ?_)
        cases hl1_
        dsimp only [Ex.elim] at hx1_
        cases hx1_
        exact t_ret (k_br <| k_tr <| k_tr <| k_br <| k_brk_r <| k_tr <| k_ret () rfl rfl rfl rfl rfl)
  · intro s1_ hs1_
    replace hs1_ : res1_ = .go s1_ := hs1_
    subst hs1_
    dsimp only [Ex.elim] at hx1_
    have hp_ := hx1_
    clear hx1_
    show Kx _ [] [] _ _
    refine k_seq ?_
    refine t_seq ?_
    refine t_reg ?_
    refine st (l_assign (o_i) (lt rfl)) ?_
    refine r_nil (k_seq ?_)
    cases hp_
    exact t_ret (k_ret () rfl rfl rfl rfl rfl)
end Go.Proofs.YtpaggjifaelcnaaGreat
