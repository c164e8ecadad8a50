import Derived.Test.YtpaggjifaelcnaaGreatPmG1
set_option linter.unusedVariables false
set_option linter.unusedSimpArgs false
set_option maxRecDepth 20000
namespace Go.Proofs.YtpaggjifaelcnaaGreat
open Go Go.Pm Go.Pt

-- slices.Index[[]rune,rune]
theorem ok111 (s : List Int) (v : Int) (y_ : Int) (hp_ : slices_Index_rune_rune s v = some y_) : FP Tryz.prog 111 [⟨vSlice (kInt .i32), s⟩, ⟨vInt .i32, v⟩] (vInt .i64) y_ := by
  unfold slices_Index_rune_rune at hp_
  refine fc_of 19 Tryz.func111 rfl fn111 rfl (Nat.le_of_ble_eq_true rfl) fun I_ w_ F_ => ?_
  refine t_seq ?_
  refine t_reg ?_
  refine st (l_assign (o_i) (lt rfl)) ?_
  refine r_nil (k_seq ?_)
  refine t_seq ?_
  refine t_seq ?_
  refine t_reg ?_
  refine st (l_move (o_t rfl) (lt rfl)) ?_
  refine st (l_lens (o_t rfl) sl137 (lt rfl)) ?_
  refine st (l_move (o_i) (lt rfl)) ?_
  refine r_nil (k_seq ?_)
  obtain ⟨res1_, hl1_0, hx1_⟩ := bs hp_
  clear hp_
  refine t_sub (Γ' := [⟨8, vInt .i64, (0 : Int)⟩, ⟨0, vSlice (kInt .i32), s⟩, ⟨1, vInt .i32, v⟩, ⟨7, vInt .i64, (s.length : Int)⟩]) (Sub.cons rfl (Sub.cons rfl (Sub.cons rfl (Sub.cons rfl (Sub.nil _))))) ?_
  refine t_bloop (β := Nat × Int) (σ := Unit) (fun x_ => [⟨8, vInt .i64, x_.2⟩, ⟨0, vSlice (kInt .i32), s⟩, ⟨1, vInt .i32, v⟩, ⟨7, vInt .i64, (s.length : Int)⟩]) (fun x_ => []) (fun x_ => slices_Index_rune.l1 x_.1 s v x_.2 = some res1_) (fun x_ => x_.1) (fun x_ => []) (fun x_ => []) (fun x_ => res1_ = .go x_) ?_ ?_ ((((s.length : Int) - (0 : Int)).toNat + 1), (0 : Int)) hl1_0
  · rintro ⟨k1_, v8_1⟩ hl1_
    rcases k1_ with _ | k1_
    · exact absurd (show none = some res1_ from hl1_) (by simp)
    replace hl1_ : slices_Index_rune.l1 (k1_ + 1) s v v8_1 = some res1_ := hl1_
    rw [slices_Index_rune.l1.eq_2] at hl1_
    show Tr Tryz.prog _ [⟨8, vInt .i64, v8_1⟩, ⟨0, vSlice (kInt .i32), s⟩, ⟨1, vInt .i32, v⟩, ⟨7, vInt .i64, (s.length : Int)⟩] [] _ _
    refine t_seq ?_
    refine t_reg ?_
    refine st (l_cmp (o_t rfl) (o_t rfl) .lss (lt rfl)) ?_
    refine r_nil (k_seq ?_)
    refine t_seq ?_
    rcases bt (decide (v8_1 < (s.length : Int))) with hb1 | hb1
    · rw [if_neg (nt hb1)] at hl1_
      refine t_iff (o_t rfl) hb1 ?_
      exact t_exit (k_te <| k_te <| k_be <| k_brk () (Option.some.inj hl1_).symm (Sub.nil _) rfl)
    · rw [if_pos hb1] at hl1_
      refine t_ift (o_t rfl) hb1 ?_
      refine t_skip (k_seq ?_)
      refine t_seq ?_
      refine t_blk ?_
      refine t_seq ?_
      refine t_reg ?_
      refine st (l_move (o_t rfl) (lt rfl)) ?_
      refine st (l_assign (o_t rfl) (lt rfl)) ?_
      refine r_nil (k_seq ?_)
      refine t_seq ?_
      refine t_reg ?_
      refine st (l_move (o_t rfl) (lt rfl)) ?_
      refine st (l_move (o_t rfl) (lt rfl)) ?_
      refine st (l_move (o_t rfl) (lt rfl)) ?_
      obtain ⟨t2, h3, hl1_⟩ := bs hl1_
      refine st (l_ia (o_t rfl) (o_t rfl) h3 sl137 sz21 (lt rfl)) ?_
      refine st (l_ld (o_t rfl) ty21 (lt rfl)) ?_
      refine st (l_cmp (o_t rfl) (o_t rfl) .eql (lt rfl)) ?_
      refine r_nil (k_seq ?_)
      rcases bt (v == t2) with hb4 | hb4
      · rw [if_neg (nt hb4)] at hl1_
        refine t_iff (o_t rfl) hb4 ?_
        refine t_skip (k_bn <| k_seq ?_)
        refine t_reg ?_
        refine st (l_bin (o_t rfl) (o_i) .add (lt rfl)) ?_
        refine st (l_move (o_t rfl) (lt rfl)) ?_
        exact r_nil (k_again (k1_, IntKind.wrap .i64 (v8_1 + (1 : Int))) hl1_ (Nat.lt_succ_self _) (Sub.cons rfl (Sub.cons rfl (Sub.cons rfl (Sub.cons rfl (Sub.nil _))))) rfl)
      · rw [if_pos hb4] at hl1_
        refine t_ift (o_t rfl) hb4 ?_
        refine t_seq ?_
        refine t_reg ?_
        refine st (l_move (o_t rfl) (lt rfl)) ?_
        refine st (l_assign (o_t rfl) (lt rfl)) ?_
        refine r_nil (k_seq ?_)
        cases hl1_
        dsimp only [Ex.elim] at hx1_
        cases hx1_
        exact t_ret (k_br <| k_tr <| k_tr <| k_br <| k_brk_r <| k_tr <| k_ret () rfl rfl rfl rfl rfl)
  · intro s1_ hs1_
    replace hs1_ : res1_ = .go s1_ := hs1_
    subst hs1_
    dsimp only [Ex.elim] at hx1_
    have hp_ := hx1_
    clear hx1_
    show Kx _ [] [] _ _
    refine k_seq ?_
    refine t_seq ?_
    refine t_reg ?_
    refine st (l_assign (o_i) (lt rfl)) ?_
    refine r_nil (k_seq ?_)
    cases hp_
    exact t_ret (k_ret () rfl rfl rfl rfl rfl)
-- slices.Contains[[]rune,rune]
theorem ok103 (s : List Int) (v : Int) (y_ : Bool) (hp_ : slices_Contains_rune_rune s v = some y_) : FP Tryz.prog 103 [⟨vSlice (kInt .i32), s⟩, ⟨vInt .i32, v⟩] vBool y_ := by
  unfold slices_Contains_rune_rune at hp_
  refine fc_of 9 Tryz.func103 rfl fn103 rfl (Nat.le_of_ble_eq_true rfl) fun I_ w_ F_ => ?_
  refine t_seq ?_
  refine t_reg ?_
  refine st (l_assign (o_b) (lt rfl)) ?_
  refine r_nil (k_seq ?_)
  refine t_seq ?_
  refine t_reg ?_
  refine st (l_move (o_t rfl) (lt rfl)) ?_
  refine st (l_move (o_t rfl) (lt rfl)) ?_
  obtain ⟨t1, h2, hp_⟩ := bs hp_
  refine st (l_call (ok111 s v _ h2) (.cons (o_t rfl) (.cons (o_t rfl) (.nil))) (lt rfl)) ?_
  refine st (l_cmp (o_t rfl) (o_i) .geq (lt rfl)) ?_
  refine st (l_assign (o_t rfl) (lt rfl)) ?_
  refine r_nil (k_seq ?_)
  cases hp_
  exact t_ret (k_ret () rfl rfl rfl rfl rfl)
-- pointsman/code.zero
theorem ok66 (x : aIns) (has : ByteArray) (y_ : Bool) (hp_ : code_zero x has = some y_) : FP Tryz.prog 66 [⟨(k_aIns).v, x⟩, ⟨vStr, has⟩] vBool y_ := by
  unfold code_zero at hp_
  refine fc_of 60 Tryz.func66 rfl fn66 rfl (Nat.le_of_ble_eq_true rfl) fun I_ w_ F_ => ?_
  refine t_seq ?_
  refine t_reg ?_
  refine st (l_box (o_t rfl) (lt rfl)) ?_
  refine st (l_assign (o_b) (lt rfl)) ?_
  refine r_nil (k_seq ?_)
  refine t_seq ?_
  refine t_draw [(0, fun gs_ => some ⟨8, vPtr (kInt .i64), x.To⟩), (0, fun gs_ => some ⟨9, vInt .i64, x.To⟩), (0, fun gs_ => some ⟨10, vBool, x.To != (0 : Int)⟩), (0, fun gs_ => some ⟨11, (k_An_is_sign).v, (An_is_sign.mk (x.To != (0 : Int)) (84 : Int))⟩), (0, fun gs_ => some ⟨12, vPtr (kInt .i64), x.A⟩), (0, fun gs_ => some ⟨13, vInt .i64, x.A⟩), (0, fun gs_ => some ⟨14, vBool, x.A != (0 : Int)⟩), (0, fun gs_ => some ⟨15, (k_An_is_sign).v, (An_is_sign.mk (x.A != (0 : Int)) (65 : Int))⟩), (0, fun gs_ => some ⟨16, vPtr (kInt .i64), x.B⟩), (0, fun gs_ => some ⟨17, vInt .i64, x.B⟩), (0, fun gs_ => some ⟨18, vBool, x.B != (0 : Int)⟩), (0, fun gs_ => some ⟨19, (k_An_is_sign).v, (An_is_sign.mk (x.B != (0 : Int)) (66 : Int))⟩), (0, fun gs_ => some ⟨20, vPtr (kInt .i64), x.N⟩), (0, fun gs_ => some ⟨21, vInt .i64, x.N⟩), (0, fun gs_ => some ⟨22, vBool, x.N != (0 : Int)⟩), (0, fun gs_ => some ⟨23, (k_An_is_sign).v, (An_is_sign.mk (x.N != (0 : Int)) (78 : Int))⟩), (0, fun gs_ => some ⟨24, vPtr (kInt .i64), x.M⟩), (0, fun gs_ => some ⟨25, vInt .i64, x.M⟩), (0, fun gs_ => some ⟨26, vBool, x.M != (0 : Int)⟩), (0, fun gs_ => some ⟨27, (k_An_is_sign).v, (An_is_sign.mk (x.M != (0 : Int)) (77 : Int))⟩), (0, fun gs_ => some ⟨28, vPtr (kSlice (kInt .i64)), x.L⟩), (0, fun gs_ => some ⟨29, vSlice (kInt .i64), x.L⟩), (0, fun gs_ => some ⟨30, vInt .i64, (x.L.length : Int)⟩), (0, fun gs_ => some ⟨31, vBool, decide ((x.L.length : Int) > (0 : Int))⟩), (0, fun gs_ => some ⟨32, (k_An_is_sign).v, (An_is_sign.mk (decide ((x.L.length : Int) > (0 : Int))) (76 : Int))⟩), (0, fun gs_ => some ⟨33, vPtr k_aBits, x.Lit⟩), (0, fun gs_ => some ⟨34, (k_aBits).v, x.Lit⟩), (0, fun gs_ => some ⟨35, (k_aBits).v, (aBits.mk 0 0 0)⟩), (0, fun gs_ => some ⟨36, vBool, !(eq_aBits x.Lit (aBits.mk 0 0 0))⟩), (0, fun gs_ => some ⟨37, (k_An_is_sign).v, (An_is_sign.mk (!(eq_aBits x.Lit (aBits.mk 0 0 0))) (73 : Int))⟩), (0, fun gs_ => some ⟨38, vPtr (kInt .u8), x.By⟩), (0, fun gs_ => some ⟨39, vInt .u8, x.By⟩), (0, fun gs_ => some ⟨40, vBool, x.By != (0 : Int)⟩), (0, fun gs_ => some ⟨41, (k_An_is_sign).v, (An_is_sign.mk (x.By != (0 : Int)) (89 : Int))⟩), (0, fun gs_ => some ⟨42, vSlice k_An_is_sign, [(An_is_sign.mk (x.To != (0 : Int)) (84 : Int)), (An_is_sign.mk (x.A != (0 : Int)) (65 : Int)), (An_is_sign.mk (x.B != (0 : Int)) (66 : Int)), (An_is_sign.mk (x.N != (0 : Int)) (78 : Int)), (An_is_sign.mk (x.M != (0 : Int)) (77 : Int)), (An_is_sign.mk (decide ((x.L.length : Int) > (0 : Int))) (76 : Int)), (An_is_sign.mk (!(eq_aBits x.Lit (aBits.mk 0 0 0))) (73 : Int)), (An_is_sign.mk (x.By != (0 : Int)) (89 : Int))]⟩), (0, fun gs_ => some ⟨5, vSlice k_An_is_sign, [(An_is_sign.mk (x.To != (0 : Int)) (84 : Int)), (An_is_sign.mk (x.A != (0 : Int)) (65 : Int)), (An_is_sign.mk (x.B != (0 : Int)) (66 : Int)), (An_is_sign.mk (x.N != (0 : Int)) (78 : Int)), (An_is_sign.mk (x.M != (0 : Int)) (77 : Int)), (An_is_sign.mk (decide ((x.L.length : Int) > (0 : Int))) (76 : Int)), (An_is_sign.mk (!(eq_aBits x.Lit (aBits.mk 0 0 0))) (73 : Int)), (An_is_sign.mk (x.By != (0 : Int)) (89 : Int))]⟩)] mixed rfl rfl (fun _ => []) [] rfl (.x (f := fun gs_ => ⟨8, vPtr (kInt .i64), x.To⟩) 0 (fun gs_ => [⟨2, vPtr k_aIns, x⟩]) rfl (fun gs_ => l_fa (o_t rfl) fl_aIns_1 fa75_1 (lt rfl)) (fun gs_ => .b rfl rfl (.nil)) .n (fun _ => rfl) rfl (fun _ _ _ => rfl) (.x (f := fun gs_ => ⟨9, vInt .i64, x.To⟩) 0 (fun gs_ => [⟨8, vPtr (kInt .i64), x.To⟩]) rfl (fun gs_ => l_ld (o_t rfl) ty3 (lt rfl)) (fun gs_ => .d 0 rfl rfl (.nil)) .n (fun _ => rfl) rfl (fun _ _ _ => rfl) (.x (f := fun gs_ => ⟨10, vBool, x.To != (0 : Int)⟩) 0 (fun gs_ => [⟨9, vInt .i64, x.To⟩]) rfl (fun gs_ => l_cmp (o_t rfl) (o_i) .neq (lt rfl)) (fun gs_ => .d 1 rfl rfl (.nil)) .n (fun _ => rfl) rfl (fun _ _ _ => rfl) (.x (f := fun gs_ => ⟨11, (k_An_is_sign).v, (An_is_sign.mk (x.To != (0 : Int)) (84 : Int))⟩) 0 (fun gs_ => [⟨10, vBool, x.To != (0 : Int)⟩]) rfl (fun gs_ => l_build zr134 (.cons (o_t rfl) fl_An_is_sign_0 ft134_0 (.cons (o_i) fl_An_is_sign_1 ft134_1 (.nil))) rfl stb134 (lt rfl)) (fun gs_ => .d 2 rfl rfl (.nil)) .n (fun _ => rfl) rfl (fun _ _ _ => rfl) (.x (f := fun gs_ => ⟨12, vPtr (kInt .i64), x.A⟩) 0 (fun gs_ => [⟨2, vPtr k_aIns, x⟩]) rfl (fun gs_ => l_fa (o_t rfl) fl_aIns_2 fa75_2 (lt rfl)) (fun gs_ => .b rfl rfl (.nil)) .n (fun _ => rfl) rfl (fun _ _ _ => rfl) (.x (f := fun gs_ => ⟨13, vInt .i64, x.A⟩) 0 (fun gs_ => [⟨12, vPtr (kInt .i64), x.A⟩]) rfl (fun gs_ => l_ld (o_t rfl) ty3 (lt rfl)) (fun gs_ => .d 4 rfl rfl (.nil)) .n (fun _ => rfl) rfl (fun _ _ _ => rfl) (.x (f := fun gs_ => ⟨14, vBool, x.A != (0 : Int)⟩) 0 (fun gs_ => [⟨13, vInt .i64, x.A⟩]) rfl (fun gs_ => l_cmp (o_t rfl) (o_i) .neq (lt rfl)) (fun gs_ => .d 5 rfl rfl (.nil)) .n (fun _ => rfl) rfl (fun _ _ _ => rfl) (.x (f := fun gs_ => ⟨15, (k_An_is_sign).v, (An_is_sign.mk (x.A != (0 : Int)) (65 : Int))⟩) 0 (fun gs_ => [⟨14, vBool, x.A != (0 : Int)⟩]) rfl (fun gs_ => l_build zr134 (.cons (o_t rfl) fl_An_is_sign_0 ft134_0 (.cons (o_i) fl_An_is_sign_1 ft134_1 (.nil))) rfl stb134 (lt rfl)) (fun gs_ => .d 6 rfl rfl (.nil)) .n (fun _ => rfl) rfl (fun _ _ _ => rfl) (.x (f := fun gs_ => ⟨16, vPtr (kInt .i64), x.B⟩) 0 (fun gs_ => [⟨2, vPtr k_aIns, x⟩]) rfl (fun gs_ => l_fa (o_t rfl) fl_aIns_3 fa75_3 (lt rfl)) (fun gs_ => .b rfl rfl (.nil)) .n (fun _ => rfl) rfl (fun _ _ _ => rfl) (.x (f := fun gs_ => ⟨17, vInt .i64, x.B⟩) 0 (fun gs_ => [⟨16, vPtr (kInt .i64), x.B⟩]) rfl (fun gs_ => l_ld (o_t rfl) ty3 (lt rfl)) (fun gs_ => .d 8 rfl rfl (.nil)) .n (fun _ => rfl) rfl (fun _ _ _ => rfl) (.x (f := fun gs_ => ⟨18, vBool, x.B != (0 : Int)⟩) 0 (fun gs_ => [⟨17, vInt .i64, x.B⟩]) rfl (fun gs_ => l_cmp (o_t rfl) (o_i) .neq (lt rfl)) (fun gs_ => .d 9 rfl rfl (.nil)) .n (fun _ => rfl) rfl (fun _ _ _ => rfl) (.x (f := fun gs_ => ⟨19, (k_An_is_sign).v, (An_is_sign.mk (x.B != (0 : Int)) (66 : Int))⟩) 0 (fun gs_ => [⟨18, vBool, x.B != (0 : Int)⟩]) rfl (fun gs_ => l_build zr134 (.cons (o_t rfl) fl_An_is_sign_0 ft134_0 (.cons (o_i) fl_An_is_sign_1 ft134_1 (.nil))) rfl stb134 (lt rfl)) (fun gs_ => .d 10 rfl rfl (.nil)) .n (fun _ => rfl) rfl (fun _ _ _ => rfl) (.x (f := fun gs_ => ⟨20, vPtr (kInt .i64), x.N⟩) 0 (fun gs_ => [⟨2, vPtr k_aIns, x⟩]) rfl (fun gs_ => l_fa (o_t rfl) fl_aIns_4 fa75_4 (lt rfl)) (fun gs_ => .b rfl rfl (.nil)) .n (fun _ => rfl) rfl (fun _ _ _ => rfl) (.x (f := fun gs_ => ⟨21, vInt .i64, x.N⟩) 0 (fun gs_ => [⟨20, vPtr (kInt .i64), x.N⟩]) rfl (fun gs_ => l_ld (o_t rfl) ty3 (lt rfl)) (fun gs_ => .d 12 rfl rfl (.nil)) .n (fun _ => rfl) rfl (fun _ _ _ => rfl) (.x (f := fun gs_ => ⟨22, vBool, x.N != (0 : Int)⟩) 0 (fun gs_ => [⟨21, vInt .i64, x.N⟩]) rfl (fun gs_ => l_cmp (o_t rfl) (o_i) .neq (lt rfl)) (fun gs_ => .d 13 rfl rfl (.nil)) .n (fun _ => rfl) rfl (fun _ _ _ => rfl) (.x (f := fun gs_ => ⟨23, (k_An_is_sign).v, (An_is_sign.mk (x.N != (0 : Int)) (78 : Int))⟩) 0 (fun gs_ => [⟨22, vBool, x.N != (0 : Int)⟩]) rfl (fun gs_ => l_build zr134 (.cons (o_t rfl) fl_An_is_sign_0 ft134_0 (.cons (o_i) fl_An_is_sign_1 ft134_1 (.nil))) rfl stb134 (lt rfl)) (fun gs_ => .d 14 rfl rfl (.nil)) .n (fun _ => rfl) rfl (fun _ _ _ => rfl) (.x (f := fun gs_ => ⟨24, vPtr (kInt .i64), x.M⟩) 0 (fun gs_ => [⟨2, vPtr k_aIns, x⟩]) rfl (fun gs_ => l_fa (o_t rfl) fl_aIns_5 fa75_5 (lt rfl)) (fun gs_ => .b rfl rfl (.nil)) .n (fun _ => rfl) rfl (fun _ _ _ => rfl) (.x (f := fun gs_ => ⟨25, vInt .i64, x.M⟩) 0 (fun gs_ => [⟨24, vPtr (kInt .i64), x.M⟩]) rfl (fun gs_ => l_ld (o_t rfl) ty3 (lt rfl)) (fun gs_ => .d 16 rfl rfl (.nil)) .n (fun _ => rfl) rfl (fun _ _ _ => rfl) (.x (f := fun gs_ => ⟨26, vBool, x.M != (0 : Int)⟩) 0 (fun gs_ => [⟨25, vInt .i64, x.M⟩]) rfl (fun gs_ => l_cmp (o_t rfl) (o_i) .neq (lt rfl)) (fun gs_ => .d 17 rfl rfl (.nil)) .n (fun _ => rfl) rfl (fun _ _ _ => rfl) (.x (f := fun gs_ => ⟨27, (k_An_is_sign).v, (An_is_sign.mk (x.M != (0 : Int)) (77 : Int))⟩) 0 (fun gs_ => [⟨26, vBool, x.M != (0 : Int)⟩]) rfl (fun gs_ => l_build zr134 (.cons (o_t rfl) fl_An_is_sign_0 ft134_0 (.cons (o_i) fl_An_is_sign_1 ft134_1 (.nil))) rfl stb134 (lt rfl)) (fun gs_ => .d 18 rfl rfl (.nil)) .n (fun _ => rfl) rfl (fun _ _ _ => rfl) (.x (f := fun gs_ => ⟨28, vPtr (kSlice (kInt .i64)), x.L⟩) 0 (fun gs_ => [⟨2, vPtr k_aIns, x⟩]) rfl (fun gs_ => l_fa (o_t rfl) fl_aIns_6 fa75_6 (lt rfl)) (fun gs_ => .b rfl rfl (.nil)) .n (fun _ => rfl) rfl (fun _ _ _ => rfl) (.x (f := fun gs_ => ⟨29, vSlice (kInt .i64), x.L⟩) 0 (fun gs_ => [⟨28, vPtr (kSlice (kInt .i64)), x.L⟩]) rfl (fun gs_ => l_ld (o_t rfl) ty22 (lt rfl)) (fun gs_ => .d 20 rfl rfl (.nil)) .n (fun _ => rfl) rfl (fun _ _ _ => rfl) (.x (f := fun gs_ => ⟨30, vInt .i64, (x.L.length : Int)⟩) 0 (fun gs_ => [⟨29, vSlice (kInt .i64), x.L⟩]) rfl (fun gs_ => l_lens (o_t rfl) sl22 (lt rfl)) (fun gs_ => .d 21 rfl rfl (.nil)) .n (fun _ => rfl) rfl (fun _ _ _ => rfl) (.x (f := fun gs_ => ⟨31, vBool, decide ((x.L.length : Int) > (0 : Int))⟩) 0 (fun gs_ => [⟨30, vInt .i64, (x.L.length : Int)⟩]) rfl (fun gs_ => l_cmp (o_t rfl) (o_i) .gtr (lt rfl)) (fun gs_ => .d 22 rfl rfl (.nil)) .n (fun _ => rfl) rfl (fun _ _ _ => rfl) (.x (f := fun gs_ => ⟨32, (k_An_is_sign).v, (An_is_sign.mk (decide ((x.L.length : Int) > (0 : Int))) (76 : Int))⟩) 0 (fun gs_ => [⟨31, vBool, decide ((x.L.length : Int) > (0 : Int))⟩]) rfl (fun gs_ => l_build zr134 (.cons (o_t rfl) fl_An_is_sign_0 ft134_0 (.cons (o_i) fl_An_is_sign_1 ft134_1 (.nil))) rfl stb134 (lt rfl)) (fun gs_ => .d 23 rfl rfl (.nil)) .n (fun _ => rfl) rfl (fun _ _ _ => rfl) (.x (f := fun gs_ => ⟨33, vPtr k_aBits, x.Lit⟩) 0 (fun gs_ => [⟨2, vPtr k_aIns, x⟩]) rfl (fun gs_ => l_fa (o_t rfl) fl_aIns_7 fa75_7 (lt rfl)) (fun gs_ => .b rfl rfl (.nil)) .n (fun _ => rfl) rfl (fun _ _ _ => rfl) (.x (f := fun gs_ => ⟨34, (k_aBits).v, x.Lit⟩) 0 (fun gs_ => [⟨33, vPtr k_aBits, x.Lit⟩]) rfl (fun gs_ => l_ld (o_t rfl) ty72 (lt rfl)) (fun gs_ => .d 25 rfl rfl (.nil)) .n (fun _ => rfl) rfl (fun _ _ _ => rfl) (.x (f := fun gs_ => ⟨35, (k_aBits).v, (aBits.mk 0 0 0)⟩) 0 (fun gs_ => []) rfl (fun gs_ => l_build zr72 (.nil) rfl stb72 (lt rfl)) (fun gs_ => .nil) .n (fun _ => rfl) rfl (fun _ _ _ => rfl) (.x (f := fun gs_ => ⟨36, vBool, !(eq_aBits x.Lit (aBits.mk 0 0 0))⟩) 0 (fun gs_ => [⟨34, (k_aBits).v, x.Lit⟩, ⟨35, (k_aBits).v, (aBits.mk 0 0 0)⟩]) rfl (fun gs_ => l_sne eqok72 rfl rfl (by kernel_rfl) (o_t rfl) (o_t rfl) (lt rfl)) (fun gs_ => .d 26 rfl rfl (.d 27 rfl rfl (.nil))) .n (fun _ => rfl) rfl (fun _ _ _ => rfl) (.x (f := fun gs_ => ⟨37, (k_An_is_sign).v, (An_is_sign.mk (!(eq_aBits x.Lit (aBits.mk 0 0 0))) (73 : Int))⟩) 0 (fun gs_ => [⟨36, vBool, !(eq_aBits x.Lit (aBits.mk 0 0 0))⟩]) rfl (fun gs_ => l_build zr134 (.cons (o_t rfl) fl_An_is_sign_0 ft134_0 (.cons (o_i) fl_An_is_sign_1 ft134_1 (.nil))) rfl stb134 (lt rfl)) (fun gs_ => .d 28 rfl rfl (.nil)) .n (fun _ => rfl) rfl (fun _ _ _ => rfl) (.x (f := fun gs_ => ⟨38, vPtr (kInt .u8), x.By⟩) 0 (fun gs_ => [⟨2, vPtr k_aIns, x⟩]) rfl (fun gs_ => l_fa (o_t rfl) fl_aIns_8 fa75_8 (lt rfl)) (fun gs_ => .b rfl rfl (.nil)) .n (fun _ => rfl) rfl (fun _ _ _ => rfl) (.x (f := fun gs_ => ⟨39, vInt .u8, x.By⟩) 0 (fun gs_ => [⟨38, vPtr (kInt .u8), x.By⟩]) rfl (fun gs_ => l_ld (o_t rfl) ty73 (lt rfl)) (fun gs_ => .d 30 rfl rfl (.nil)) .n (fun _ => rfl) rfl (fun _ _ _ => rfl) (.x (f := fun gs_ => ⟨40, vBool, x.By != (0 : Int)⟩) 0 (fun gs_ => [⟨39, vInt .u8, x.By⟩]) rfl (fun gs_ => l_cmp (o_t rfl) (o_i) .neq (lt rfl)) (fun gs_ => .d 31 rfl rfl (.nil)) .n (fun _ => rfl) rfl (fun _ _ _ => rfl) (.x (f := fun gs_ => ⟨41, (k_An_is_sign).v, (An_is_sign.mk (x.By != (0 : Int)) (89 : Int))⟩) 0 (fun gs_ => [⟨40, vBool, x.By != (0 : Int)⟩]) rfl (fun gs_ => l_build zr134 (.cons (o_t rfl) fl_An_is_sign_0 ft134_0 (.cons (o_i) fl_An_is_sign_1 ft134_1 (.nil))) rfl stb134 (lt rfl)) (fun gs_ => .d 32 rfl rfl (.nil)) .n (fun _ => rfl) rfl (fun _ _ _ => rfl) (.x (f := fun gs_ => ⟨42, vSlice k_An_is_sign, [(An_is_sign.mk (x.To != (0 : Int)) (84 : Int)), (An_is_sign.mk (x.A != (0 : Int)) (65 : Int)), (An_is_sign.mk (x.B != (0 : Int)) (66 : Int)), (An_is_sign.mk (x.N != (0 : Int)) (78 : Int)), (An_is_sign.mk (x.M != (0 : Int)) (77 : Int)), (An_is_sign.mk (decide ((x.L.length : Int) > (0 : Int))) (76 : Int)), (An_is_sign.mk (!(eq_aBits x.Lit (aBits.mk 0 0 0))) (73 : Int)), (An_is_sign.mk (x.By != (0 : Int)) (89 : Int))]⟩) 0 (fun gs_ => [⟨11, (k_An_is_sign).v, (An_is_sign.mk (x.To != (0 : Int)) (84 : Int))⟩, ⟨15, (k_An_is_sign).v, (An_is_sign.mk (x.A != (0 : Int)) (65 : Int))⟩, ⟨19, (k_An_is_sign).v, (An_is_sign.mk (x.B != (0 : Int)) (66 : Int))⟩, ⟨23, (k_An_is_sign).v, (An_is_sign.mk (x.N != (0 : Int)) (78 : Int))⟩, ⟨27, (k_An_is_sign).v, (An_is_sign.mk (x.M != (0 : Int)) (77 : Int))⟩, ⟨32, (k_An_is_sign).v, (An_is_sign.mk (decide ((x.L.length : Int) > (0 : Int))) (76 : Int))⟩, ⟨37, (k_An_is_sign).v, (An_is_sign.mk (!(eq_aBits x.Lit (aBits.mk 0 0 0))) (73 : Int))⟩, ⟨41, (k_An_is_sign).v, (An_is_sign.mk (x.By != (0 : Int)) (89 : Int))⟩]) rfl (fun gs_ => l_bslice (.cons (o_t rfl) (.cons (o_t rfl) (.cons (o_t rfl) (.cons (o_t rfl) (.cons (o_t rfl) (.cons (o_t rfl) (.cons (o_t rfl) (.cons (o_t rfl) (.nil))))))))) rfl (Nat.le_of_ble_eq_true rfl) (lt rfl) sl135 zb134 sz134 (lt rfl)) (fun gs_ => .d 3 rfl rfl (.d 7 rfl rfl (.d 11 rfl rfl (.d 15 rfl rfl (.d 19 rfl rfl (.d 24 rfl rfl (.d 29 rfl rfl (.d 33 rfl rfl (.nil))))))))) .n (fun _ => rfl) rfl (fun _ _ _ => rfl) (.x (f := fun gs_ => ⟨5, vSlice k_An_is_sign, [(An_is_sign.mk (x.To != (0 : Int)) (84 : Int)), (An_is_sign.mk (x.A != (0 : Int)) (65 : Int)), (An_is_sign.mk (x.B != (0 : Int)) (66 : Int)), (An_is_sign.mk (x.N != (0 : Int)) (78 : Int)), (An_is_sign.mk (x.M != (0 : Int)) (77 : Int)), (An_is_sign.mk (decide ((x.L.length : Int) > (0 : Int))) (76 : Int)), (An_is_sign.mk (!(eq_aBits x.Lit (aBits.mk 0 0 0))) (73 : Int)), (An_is_sign.mk (x.By != (0 : Int)) (89 : Int))]⟩) 0 (fun gs_ => [⟨42, vSlice k_An_is_sign, [(An_is_sign.mk (x.To != (0 : Int)) (84 : Int)), (An_is_sign.mk (x.A != (0 : Int)) (65 : Int)), (An_is_sign.mk (x.B != (0 : Int)) (66 : Int)), (An_is_sign.mk (x.N != (0 : Int)) (78 : Int)), (An_is_sign.mk (x.M != (0 : Int)) (77 : Int)), (An_is_sign.mk (decide ((x.L.length : Int) > (0 : Int))) (76 : Int)), (An_is_sign.mk (!(eq_aBits x.Lit (aBits.mk 0 0 0))) (73 : Int)), (An_is_sign.mk (x.By != (0 : Int)) (89 : Int))]⟩]) rfl (fun gs_ => l_assign (o_t rfl) (lt rfl)) (fun gs_ => .d 34 rfl rfl (.nil)) .n (fun _ => rfl) rfl (fun _ _ _ => rfl) (.nil))))))))))))))))))))))))))))))))))))) (fun gs_ hgs_ => ?_)
  refine k_seq ?_
  refine t_seq ?_
  refine t_seq ?_
  refine t_reg ?_
  refine st (l_move (o_t rfl) (lt rfl)) ?_
  refine st (l_lens (o_t rfl) sl135 (lt rfl)) ?_
  refine st (l_move (o_i) (lt rfl)) ?_
  refine r_nil (k_seq ?_)
  obtain ⟨res1_, hl1_0, hx1_⟩ := bs hp_
  clear hp_
  refine t_sub (Γ' := [⟨45, vInt .i64, (0 : Int)⟩, ⟨1, vStr, has⟩, ⟨43, vSlice k_An_is_sign, [(An_is_sign.mk (x.To != (0 : Int)) (84 : Int)), (An_is_sign.mk (x.A != (0 : Int)) (65 : Int)), (An_is_sign.mk (x.B != (0 : Int)) (66 : Int)), (An_is_sign.mk (x.N != (0 : Int)) (78 : Int)), (An_is_sign.mk (x.M != (0 : Int)) (77 : Int)), (An_is_sign.mk (decide ((x.L.length : Int) > (0 : Int))) (76 : Int)), (An_is_sign.mk (!(eq_aBits x.Lit (aBits.mk 0 0 0))) (73 : Int)), (An_is_sign.mk (x.By != (0 : Int)) (89 : Int))]⟩, ⟨44, vInt .i64, ([(An_is_sign.mk (x.To != (0 : Int)) (84 : Int)), (An_is_sign.mk (x.A != (0 : Int)) (65 : Int)), (An_is_sign.mk (x.B != (0 : Int)) (66 : Int)), (An_is_sign.mk (x.N != (0 : Int)) (78 : Int)), (An_is_sign.mk (x.M != (0 : Int)) (77 : Int)), (An_is_sign.mk (decide ((x.L.length : Int) > (0 : Int))) (76 : Int)), (An_is_sign.mk (!(eq_aBits x.Lit (aBits.mk 0 0 0))) (73 : Int)), (An_is_sign.mk (x.By != (0 : Int)) (89 : Int))].length : Int)⟩]) (Sub.cons rfl (Sub.cons rfl (Sub.cons rfl (Sub.cons rfl (Sub.nil _))))) ?_
  refine t_bloop (β := Nat × Int) (σ := Unit) (fun x_ => [⟨45, vInt .i64, x_.2⟩, ⟨1, vStr, has⟩, ⟨43, vSlice k_An_is_sign, [(An_is_sign.mk (x.To != (0 : Int)) (84 : Int)), (An_is_sign.mk (x.A != (0 : Int)) (65 : Int)), (An_is_sign.mk (x.B != (0 : Int)) (66 : Int)), (An_is_sign.mk (x.N != (0 : Int)) (78 : Int)), (An_is_sign.mk (x.M != (0 : Int)) (77 : Int)), (An_is_sign.mk (decide ((x.L.length : Int) > (0 : Int))) (76 : Int)), (An_is_sign.mk (!(eq_aBits x.Lit (aBits.mk 0 0 0))) (73 : Int)), (An_is_sign.mk (x.By != (0 : Int)) (89 : Int))]⟩, ⟨44, vInt .i64, ([(An_is_sign.mk (x.To != (0 : Int)) (84 : Int)), (An_is_sign.mk (x.A != (0 : Int)) (65 : Int)), (An_is_sign.mk (x.B != (0 : Int)) (66 : Int)), (An_is_sign.mk (x.N != (0 : Int)) (78 : Int)), (An_is_sign.mk (x.M != (0 : Int)) (77 : Int)), (An_is_sign.mk (decide ((x.L.length : Int) > (0 : Int))) (76 : Int)), (An_is_sign.mk (!(eq_aBits x.Lit (aBits.mk 0 0 0))) (73 : Int)), (An_is_sign.mk (x.By != (0 : Int)) (89 : Int))].length : Int)⟩]) (fun x_ => []) (fun x_ => code_zero.l1 x_.1 x has x_.2 = some res1_) (fun x_ => x_.1) (fun x_ => []) (fun x_ => []) (fun x_ => res1_ = .go x_) ?_ ?_ (((([(An_is_sign.mk (x.To != (0 : Int)) (84 : Int)), (An_is_sign.mk (x.A != (0 : Int)) (65 : Int)), (An_is_sign.mk (x.B != (0 : Int)) (66 : Int)), (An_is_sign.mk (x.N != (0 : Int)) (78 : Int)), (An_is_sign.mk (x.M != (0 : Int)) (77 : Int)), (An_is_sign.mk (decide ((x.L.length : Int) > (0 : Int))) (76 : Int)), (An_is_sign.mk (!(eq_aBits x.Lit (aBits.mk 0 0 0))) (73 : Int)), (An_is_sign.mk (x.By != (0 : Int)) (89 : Int))].length : Int) - (0 : Int)).toNat + 1), (0 : Int)) hl1_0
  · rintro ⟨k1_, v45_1⟩ hl1_
    rcases k1_ with _ | k1_
    · exact absurd (show none = some res1_ from hl1_) (by simp)
    replace hl1_ : code_zero.l1 (k1_ + 1) x has v45_1 = some res1_ := hl1_
    rw [code_zero.l1.eq_2] at hl1_
    show Tr Tryz.prog _ [⟨45, vInt .i64, v45_1⟩, ⟨1, vStr, has⟩, ⟨43, vSlice k_An_is_sign, [(An_is_sign.mk (x.To != (0 : Int)) (84 : Int)), (An_is_sign.mk (x.A != (0 : Int)) (65 : Int)), (An_is_sign.mk (x.B != (0 : Int)) (66 : Int)), (An_is_sign.mk (x.N != (0 : Int)) (78 : Int)), (An_is_sign.mk (x.M != (0 : Int)) (77 : Int)), (An_is_sign.mk (decide ((x.L.length : Int) > (0 : Int))) (76 : Int)), (An_is_sign.mk (!(eq_aBits x.Lit (aBits.mk 0 0 0))) (73 : Int)), (An_is_sign.mk (x.By != (0 : Int)) (89 : Int))]⟩, ⟨44, vInt .i64, ([(An_is_sign.mk (x.To != (0 : Int)) (84 : Int)), (An_is_sign.mk (x.A != (0 : Int)) (65 : Int)), (An_is_sign.mk (x.B != (0 : Int)) (66 : Int)), (An_is_sign.mk (x.N != (0 : Int)) (78 : Int)), (An_is_sign.mk (x.M != (0 : Int)) (77 : Int)), (An_is_sign.mk (decide ((x.L.length : Int) > (0 : Int))) (76 : Int)), (An_is_sign.mk (!(eq_aBits x.Lit (aBits.mk 0 0 0))) (73 : Int)), (An_is_sign.mk (x.By != (0 : Int)) (89 : Int))].length : Int)⟩] [] _ _
    refine t_seq ?_
    refine t_reg ?_
    refine st (l_cmp (o_t rfl) (o_t rfl) .lss (lt rfl)) ?_
    refine r_nil (k_seq ?_)
    refine t_seq ?_
    rcases bt (decide (v45_1 < ([(An_is_sign.mk (x.To != (0 : Int)) (84 : Int)), (An_is_sign.mk (x.A != (0 : Int)) (65 : Int)), (An_is_sign.mk (x.B != (0 : Int)) (66 : Int)), (An_is_sign.mk (x.N != (0 : Int)) (78 : Int)), (An_is_sign.mk (x.M != (0 : Int)) (77 : Int)), (An_is_sign.mk (decide ((x.L.length : Int) > (0 : Int))) (76 : Int)), (An_is_sign.mk (!(eq_aBits x.Lit (aBits.mk 0 0 0))) (73 : Int)), (An_is_sign.mk (x.By != (0 : Int)) (89 : Int))].length : Int))) with hb1 | hb1
    · rw [if_neg (nt hb1)] at hl1_
      refine t_iff (o_t rfl) hb1 ?_
      exact t_exit (k_te <| k_te <| k_be <| k_brk () (Option.some.inj hl1_).symm (Sub.nil _) rfl)
    · rw [if_pos hb1] at hl1_
      refine t_ift (o_t rfl) hb1 ?_
      refine t_skip (k_seq ?_)
      refine t_seq ?_
      refine t_blk ?_
      refine t_seq ?_
      refine t_reg ?_
      obtain ⟨t2, h3, hl1_⟩ := bs hl1_
      refine st (l_ia (o_t rfl) (o_t rfl) h3 sl135 sz134 (lt rfl)) ?_
      refine st (l_ld (o_t rfl) ty134 (lt rfl)) ?_
      refine r_als zr134 (o_t rfl) rfl sz134 (lt rfl) ?_
      refine r_nil (k_seq ?_)
      refine t_seq ?_
      refine t_reg ?_
      refine st (l_fa (o_t rfl) fl_An_is_sign_0 fa134_0 (lt rfl)) ?_
      refine st (l_ld (o_t rfl) ty4 (lt rfl)) ?_
      refine st (l_move (o_t rfl) (lt rfl)) ?_
      rcases bt (t2.is) with hb4 | hb4
      · rw [if_neg (nt hb4)] at hl1_
        refine g_n ⟨51, vBool, t2.is⟩ rfl rfl (noy_b (b := true) hb4) (lt rfl) ?_
        refine g_n ⟨51, vBool, t2.is⟩ rfl rfl (noy_b (b := true) hb4) (lt rfl) ?_
        refine g_n ⟨51, vBool, t2.is⟩ rfl rfl (noy_b (b := true) hb4) (lt rfl) ?_
        refine g_n ⟨51, vBool, t2.is⟩ rfl rfl (noy_b (b := true) hb4) (lt rfl) ?_
        refine g_n ⟨51, vBool, t2.is⟩ rfl rfl (noy_b (b := true) hb4) (lt rfl) ?_
        refine g_n ⟨51, vBool, t2.is⟩ rfl rfl (noy_b (b := true) hb4) (lt rfl) ?_
        refine st (l_pickf (o_t rfl) hb4 (o_b) (lt rfl)) ?_
        refine r_nil (k_seq ?_)
        refine t_iff (o_t rfl) rfl ?_
        refine t_skip (k_bn <| k_seq ?_)
        refine t_reg ?_
        refine st (l_bin (o_t rfl) (o_i) .add (lt rfl)) ?_
        refine st (l_move (o_t rfl) (lt rfl)) ?_
        exact r_nil (k_again (k1_, IntKind.wrap .i64 (v45_1 + (1 : Int))) hl1_ (Nat.lt_succ_self _) (Sub.cons rfl (Sub.cons rfl (Sub.cons rfl (Sub.cons rfl (Sub.nil _))))) rfl)
      · rw [if_pos hb4] at hl1_
        refine g_t rfl rfl hb4 ?_
        refine st (l_move (o_t rfl) (lt rfl)) ?_
        refine g_t rfl rfl hb4 ?_
        rcases bt (decide ((runesL has).length ≤ 140737488355328)) with hc5 | hc5
        · rw [if_neg (nt hc5)] at hl1_; cases hl1_
        rw [if_pos hc5] at hl1_
        refine st (l_runes (o_t rfl) str9 sl137 int21 hc5 (lt rfl)) ?_
        refine g_t rfl rfl hb4 ?_
        refine st (l_fa (o_t rfl) fl_An_is_sign_1 fa134_1 (lt rfl)) ?_
        refine g_t rfl rfl hb4 ?_
        refine st (l_ld (o_t rfl) ty21 (lt rfl)) ?_
        refine g_t rfl rfl hb4 ?_
        obtain ⟨t6, h7, hl1_⟩ := bs hl1_
        refine st (l_call (ok103 (runesL has) t2.sign _ h7) (.cons (o_t rfl) (.cons (o_t rfl) (.nil))) (lt rfl)) ?_
        refine g_t rfl rfl hb4 ?_
        refine st (l_not (o_t rfl) (lt rfl)) ?_
        refine st (l_pickt (o_t rfl) hb4 (o_t rfl) (lt rfl)) ?_
        refine r_nil (k_seq ?_)
        rcases bt (!t6) with hb8 | hb8
        · rw [if_neg (nt hb8)] at hl1_
          refine t_iff (o_t rfl) hb8 ?_
          refine t_skip (k_bn <| k_seq ?_)
          refine t_reg ?_
          refine st (l_bin (o_t rfl) (o_i) .add (lt rfl)) ?_
          refine st (l_move (o_t rfl) (lt rfl)) ?_
          exact r_nil (k_again (k1_, IntKind.wrap .i64 (v45_1 + (1 : Int))) hl1_ (Nat.lt_succ_self _) (Sub.cons rfl (Sub.cons rfl (Sub.cons rfl (Sub.cons rfl (Sub.nil _))))) rfl)
        · rw [if_pos hb8] at hl1_
          refine t_ift (o_t rfl) hb8 ?_
          refine t_seq ?_
          refine t_reg ?_
          refine st (l_assign (o_b) (lt rfl)) ?_
          refine r_nil (k_seq ?_)
          cases hl1_
          dsimp only [Ex.elim] at hx1_
          cases hx1_
          exact t_ret (k_br <| k_tr <| k_tr <| k_br <| k_brk_r <| k_tr <| k_ret () rfl rfl rfl rfl rfl)
  · intro s1_ hs1_
    replace hs1_ : res1_ = .go s1_ := hs1_
    subst hs1_
    dsimp only [Ex.elim] at hx1_
    have hp_ := hx1_
    clear hx1_
    show Kx _ [] [] _ _
    refine k_seq ?_
    refine t_seq ?_
    refine t_reg ?_
    refine st (l_assign (o_b) (lt rfl)) ?_
    refine r_nil (k_seq ?_)
    cases hp_
    exact t_ret (k_ret () rfl rfl rfl rfl rfl)
-- (pointsman/code.look).code
theorem ok28 (p0 : code_look) (p1 : List aIns) (p2 : Bool) (p3 : Bool) (y_ : Bool) (hp_ : code_look_code p0 p1 p2 p3 = some y_) : FP Tryz.prog 28 [⟨(k_code_look).v, p0⟩, ⟨vSlice k_aIns, p1⟩, ⟨vBool, p2⟩, ⟨vBool, p3⟩] vBool y_ := by
  unfold code_look_code at hp_
  refine fc_of 67 Tryz.func28 rfl fn28 rfl (Nat.le_of_ble_eq_true rfl) fun I_ w_ F_ => ?_
  refine t_seq ?_
  refine t_reg ?_
  refine st (l_box (o_t rfl) (lt rfl)) ?_
  refine st (l_box (o_t rfl) (lt rfl)) ?_
  refine st (l_assign (o_b) (lt rfl)) ?_
  refine r_nil (k_seq ?_)
  refine t_seq ?_
  refine t_reg ?_
  obtain ⟨t1, h2, hp_⟩ := bs hp_
  refine st (l_call (ok63  _ h2) (.nil) (lt rfl)) ?_
  refine st (l_assign (o_t rfl) (lt rfl)) ?_
  refine r_nil (k_seq ?_)
  refine t_seq ?_
  refine t_seq ?_
  refine t_reg ?_
  refine st (l_ld (o_t rfl) ty25 (lt rfl)) ?_
  refine st (l_lens (o_t rfl) sl25 (lt rfl)) ?_
  refine st (l_move (o_i) (lt rfl)) ?_
  refine r_nil (k_seq ?_)
  obtain ⟨res1_, hl1_0, hx1_⟩ := bs hp_
  clear hp_
  refine t_sub (Γ' := [⟨15, vInt .i64, (0 : Int)⟩, ⟨2, vBool, p2⟩, ⟨3, vBool, p3⟩, ⟨4, vPtr k_code_look, p0⟩, ⟨5, vPtr (kSlice k_aIns), p1⟩, ⟨9, vSlice k_code_row, t1⟩, ⟨14, vInt .i64, (p1.length : Int)⟩]) (Sub.cons rfl (Sub.cons rfl (Sub.cons rfl (Sub.cons rfl (Sub.cons rfl (Sub.cons rfl (Sub.cons rfl (Sub.nil _)))))))) ?_
  refine t_bloop (β := Nat × Int) (σ := Unit) (fun x_ => [⟨15, vInt .i64, x_.2⟩, ⟨2, vBool, p2⟩, ⟨3, vBool, p3⟩, ⟨4, vPtr k_code_look, p0⟩, ⟨5, vPtr (kSlice k_aIns), p1⟩, ⟨9, vSlice k_code_row, t1⟩, ⟨14, vInt .i64, (p1.length : Int)⟩]) (fun x_ => []) (fun x_ => code_look_code.l1 x_.1 p0 p1 p2 p3 t1 x_.2 = some res1_) (fun x_ => x_.1) (fun x_ => []) (fun x_ => []) (fun x_ => res1_ = .go x_) ?_ ?_ ((((p1.length : Int) - (0 : Int)).toNat + 1), (0 : Int)) hl1_0
  · rintro ⟨k1_, v15_1⟩ hl1_
    rcases k1_ with _ | k1_
    · exact absurd (show none = some res1_ from hl1_) (by simp)
    replace hl1_ : code_look_code.l1 (k1_ + 1) p0 p1 p2 p3 t1 v15_1 = some res1_ := hl1_
    rw [code_look_code.l1.eq_2] at hl1_
    show Tr Tryz.prog _ [⟨15, vInt .i64, v15_1⟩, ⟨2, vBool, p2⟩, ⟨3, vBool, p3⟩, ⟨4, vPtr k_code_look, p0⟩, ⟨5, vPtr (kSlice k_aIns), p1⟩, ⟨9, vSlice k_code_row, t1⟩, ⟨14, vInt .i64, (p1.length : Int)⟩] [] _ _
    refine t_seq ?_
    refine t_reg ?_
    refine st (l_cmp (o_t rfl) (o_t rfl) .lss (lt rfl)) ?_
    refine r_nil (k_seq ?_)
    refine t_seq ?_
    rcases bt (decide (v15_1 < (p1.length : Int))) with hb3 | hb3
    · rw [if_neg (nt hb3)] at hl1_
      refine t_iff (o_t rfl) hb3 ?_
      exact t_exit (k_te <| k_te <| k_be <| k_brk () (Option.some.inj hl1_).symm (Sub.nil _) rfl)
    · rw [if_pos hb3] at hl1_
      refine t_ift (o_t rfl) hb3 ?_
      refine t_skip (k_seq ?_)
      refine t_seq ?_
      refine t_blk ?_
      refine t_seq ?_
      refine t_reg ?_
      refine st (l_move (o_t rfl) (lt rfl)) ?_
      refine r_als zr3 (o_t rfl) rfl sz3 (lt rfl) ?_
      refine r_nil (k_seq ?_)
      refine t_seq ?_
      refine t_reg ?_
      refine st (l_move (o_t rfl) (lt rfl)) ?_
      refine st (l_mkf (.nil) (.cons (o_t rfl) (.cons (o_t rfl) (.nil))) (lt rfl)) ?_
      obtain ⟨t4, h5, hl1_⟩ := bs hl1_
      refine st (l_call (ok64 t1 (fun x_ : code_row => code_look_code_1 x_ p1 v15_1) _ h5) (.cons (o_t rfl) (.cons (o_clo (o_t rfl) fn65 (fun x_ y h => ok65_0 x_ p1 v15_1 _ h)) (.nil))) (lt rfl)) ?_
      refine st (l_assign (o_t rfl) (lt rfl)) ?_
      refine r_nil (k_seq ?_)
      refine t_seq ?_
      rcases bt (decide (t4 < (0 : Int))) with hb6 | hb6
      · rw [if_neg (nt hb6)] at hl1_
        rcases bt (p2) with hb7 | hb7
        · rw [if_neg (nt hb7)] at hl1_
          obtain ⟨t8, h9, hl1_⟩ := bs hl1_
          obtain ⟨t10, h11, hl1_⟩ := bs hl1_
          obtain ⟨t12, h13, hl1_⟩ := bs hl1_
          rcases bt (!t12) with hb14 | hb14
          · rw [if_neg (nt hb14)] at hl1_
            obtain ⟨t15, h16, hl1_⟩ := bs hl1_
            obtain ⟨t17, h18, hl1_⟩ := bs hl1_
            obtain ⟨t19, h20, hl1_⟩ := bs hl1_
            refine t_draw [(0, fun gs_ => some ⟨21, vInt .i64, t4⟩), (0, fun gs_ => some ⟨22, vBool, decide (t4 < (0 : Int))⟩), (0, fun gs_ => some ⟨23, vBool, decide (t4 < (0 : Int))⟩), (0, fun gs_ => some ⟨24, vBool, p2⟩), (0, fun gs_ => some ⟨25, vBool, p2⟩), (0, fun _ => some ⟨26, vUnd, ()⟩), (0, fun _ => some ⟨27, vUnd, ()⟩), (0, fun _ => some ⟨28, vUnd, ()⟩), (0, fun _ => some ⟨29, vUnd, ()⟩), (0, fun _ => some ⟨30, vUnd, ()⟩), (0, fun _ => some ⟨31, vUnd, ()⟩), (0, fun gs_ => some ⟨32, vBool, false⟩), (0, fun gs_ => some ⟨33, vBool, false⟩), (0, fun gs_ => some ⟨34, vBool, false⟩), (0, fun gs_ => some ⟨35, vSlice k_aIns, p1⟩), (0, fun gs_ => some ⟨36, vInt .i64, v15_1⟩), (0, fun gs_ => some ⟨37, vPtr k_aIns, t8⟩), (0, fun gs_ => some ⟨38, (k_aIns).v, t8⟩), (0, fun gs_ => some ⟨39, vSlice k_code_row, t1⟩), (0, fun gs_ => some ⟨40, vInt .i64, t4⟩), (0, fun gs_ => some ⟨41, vPtr k_code_row, t10⟩), (0, fun gs_ => some ⟨42, vPtr kStr, t10.has⟩), (0, fun gs_ => some ⟨43, vStr, t10.has⟩), (0, fun gs_ => some ⟨44, vBool, t12⟩), (0, fun gs_ => some ⟨45, vBool, !t12⟩), (0, fun gs_ => some ⟨46, vBool, !t12⟩), (0, fun gs_ => some ⟨47, vBool, !t12⟩), (0, fun gs_ => some ⟨48, vSlice k_code_row, t1⟩), (0, fun gs_ => some ⟨49, vInt .i64, t4⟩), (0, fun gs_ => some ⟨50, vPtr k_code_row, t15⟩), (0, fun gs_ => some ⟨51, vPtr (kClo Tryz.prog (fun x : code_look × aIns × code_place => [⟨(k_code_look).v, x.1⟩, ⟨(k_aIns).v, x.2.1⟩, ⟨(k_code_place).v, x.2.2⟩]) vBool), t15.fine⟩), (0, fun gs_ => some ⟨52, vClo Tryz.prog (fun x : code_look × aIns × code_place => [⟨(k_code_look).v, x.1⟩, ⟨(k_aIns).v, x.2.1⟩, ⟨(k_code_place).v, x.2.2⟩]) vBool, t15.fine⟩), (0, fun gs_ => some ⟨53, (k_code_look).v, p0⟩), (0, fun gs_ => some ⟨54, vSlice k_aIns, p1⟩), (0, fun gs_ => some ⟨55, vInt .i64, v15_1⟩), (0, fun gs_ => some ⟨56, vPtr k_aIns, t17⟩), (0, fun gs_ => some ⟨57, (k_aIns).v, t17⟩), (0, fun gs_ => some ⟨58, vInt .i64, v15_1⟩), (0, fun gs_ => some ⟨59, vSlice k_aIns, p1⟩), (0, fun gs_ => some ⟨60, vInt .i64, (p1.length : Int)⟩), (0, fun gs_ => some ⟨61, vBool, p3⟩), (0, fun gs_ => some ⟨62, (k_code_place).v, (code_place.mk v15_1 (p1.length : Int) p3)⟩), (0, fun gs_ => some ⟨63, vBool, t19⟩), (0, fun gs_ => some ⟨64, vBool, !t19⟩), (0, fun gs_ => some ⟨65, vBool, !t19⟩)] mixed rfl rfl (fun _ => []) [] rfl (.x (f := fun gs_ => ⟨21, vInt .i64, t4⟩) 0 (fun gs_ => [⟨11, vInt .i64, t4⟩]) rfl (fun gs_ => l_move (o_t rfl) (lt rfl)) (fun gs_ => .b rfl rfl (.nil)) .n (fun _ => rfl) rfl (fun _ _ _ => rfl) (.x (f := fun gs_ => ⟨22, vBool, decide (t4 < (0 : Int))⟩) 0 (fun gs_ => [⟨21, vInt .i64, t4⟩]) rfl (fun gs_ => l_cmp (o_t rfl) (o_i) .lss (lt rfl)) (fun gs_ => .d 0 rfl rfl (.nil)) .n (fun _ => rfl) rfl (fun _ _ _ => rfl) (.x (f := fun gs_ => ⟨23, vBool, decide (t4 < (0 : Int))⟩) 0 (fun gs_ => [⟨22, vBool, decide (t4 < (0 : Int))⟩]) rfl (fun gs_ => l_move (o_t rfl) (lt rfl)) (fun gs_ => .d 1 rfl rfl (.nil)) .n (fun _ => rfl) rfl (fun _ _ _ => rfl) (.x (f := fun gs_ => ⟨24, vBool, p2⟩) 0 (fun gs_ => [⟨2, vBool, p2⟩]) rfl (fun gs_ => l_move (o_t rfl) (lt rfl)) (fun gs_ => .b rfl rfl (.nil)) (.s rfl (fun gs_ => .d 2 rfl rfl (.nil)) hb6) (fun _ => rfl) rfl (fun _ _ _ => rfl) (.x (f := fun gs_ => ⟨25, vBool, p2⟩) 0 (fun gs_ => [⟨24, vBool, p2⟩]) rfl (fun gs_ => l_move (o_t rfl) (lt rfl)) (fun gs_ => .d 3 rfl rfl (.nil)) (.s rfl (fun gs_ => .d 2 rfl rfl (.nil)) hb6) (fun _ => rfl) rfl (fun _ _ _ => rfl) (.n (fun gs_ => ⟨25, vBool, p2⟩) rfl (fun _ => rfl) (fun gs_ => .d 4 rfl rfl (.nil)) (fun _ => noy_b (b := true) hb7) (lt rfl) (.n (fun gs_ => ⟨25, vBool, p2⟩) rfl (fun _ => rfl) (fun gs_ => .d 4 rfl rfl (.nil)) (fun _ => noy_b (b := true) hb7) (lt rfl) (.n (fun gs_ => ⟨25, vBool, p2⟩) rfl (fun _ => rfl) (fun gs_ => .d 4 rfl rfl (.nil)) (fun _ => noy_b (b := true) hb7) (lt rfl) (.n (fun gs_ => ⟨25, vBool, p2⟩) rfl (fun _ => rfl) (fun gs_ => .d 4 rfl rfl (.nil)) (fun _ => noy_b (b := true) hb7) (lt rfl) (.n (fun gs_ => ⟨25, vBool, p2⟩) rfl (fun _ => rfl) (fun gs_ => .d 4 rfl rfl (.nil)) (fun _ => noy_b (b := true) hb7) (lt rfl) (.n (fun gs_ => ⟨25, vBool, p2⟩) rfl (fun _ => rfl) (fun gs_ => .d 4 rfl rfl (.nil)) (fun _ => noy_b (b := true) hb7) (lt rfl) (.x (f := fun gs_ => ⟨32, vBool, false⟩) 0 (fun gs_ => [⟨25, vBool, p2⟩]) rfl (fun gs_ => l_pickf (o_t rfl) hb7 (o_b) (lt rfl)) (fun gs_ => .d 4 rfl rfl (.nil)) (.s rfl (fun gs_ => .d 2 rfl rfl (.nil)) hb6) (fun _ => rfl) rfl (fun _ _ _ => rfl) (.x (f := fun gs_ => ⟨33, vBool, false⟩) 0 (fun gs_ => [⟨23, vBool, decide (t4 < (0 : Int))⟩, ⟨32, vBool, false⟩]) rfl (fun gs_ => l_pickf (o_t rfl) hb6 (o_t rfl) (lt rfl)) (fun gs_ => .d 2 rfl rfl (.d 11 rfl rfl (.nil))) .n (fun _ => rfl) rfl (fun _ _ _ => rfl) (.x (f := fun gs_ => ⟨34, vBool, false⟩) 0 (fun gs_ => [⟨33, vBool, false⟩]) rfl (fun gs_ => l_move (o_t rfl) (lt rfl)) (fun gs_ => .d 12 rfl rfl (.nil)) .n (fun _ => rfl) rfl (fun _ _ _ => rfl) (.x (f := fun gs_ => ⟨35, vSlice k_aIns, p1⟩) 0 (fun gs_ => [⟨5, vPtr (kSlice k_aIns), p1⟩]) rfl (fun gs_ => l_ld (o_t rfl) ty25 (lt rfl)) (fun gs_ => .b rfl rfl (.nil)) (.s rfl (fun gs_ => .d 13 rfl rfl (.nil)) rfl) (fun _ => rfl) rfl (fun _ _ _ => rfl) (.x (f := fun gs_ => ⟨36, vInt .i64, v15_1⟩) 0 (fun gs_ => [⟨10, vPtr (kInt .i64), v15_1⟩]) rfl (fun gs_ => l_ld (o_t rfl) ty3 (lt rfl)) (fun gs_ => .b rfl rfl (.nil)) (.s rfl (fun gs_ => .d 13 rfl rfl (.nil)) rfl) (fun _ => rfl) rfl (fun _ _ _ => rfl) (.x (f := fun gs_ => ⟨37, vPtr k_aIns, t8⟩) 0 (fun gs_ => [⟨35, vSlice k_aIns, p1⟩, ⟨36, vInt .i64, v15_1⟩]) rfl (fun gs_ => l_ia (o_t rfl) (o_t rfl) h9 sl25 sz75 (lt rfl)) (fun gs_ => .d 14 rfl rfl (.d 15 rfl rfl (.nil))) (.s rfl (fun gs_ => .d 13 rfl rfl (.nil)) rfl) (fun _ => rfl) rfl (fun _ _ _ => rfl) (.x (f := fun gs_ => ⟨38, (k_aIns).v, t8⟩) 0 (fun gs_ => [⟨37, vPtr k_aIns, t8⟩]) rfl (fun gs_ => l_ld (o_t rfl) ty75 (lt rfl)) (fun gs_ => .d 16 rfl rfl (.nil)) (.s rfl (fun gs_ => .d 13 rfl rfl (.nil)) rfl) (fun _ => rfl) rfl (fun _ _ _ => rfl) (.x (f := fun gs_ => ⟨39, vSlice k_code_row, t1⟩) 0 (fun gs_ => [⟨9, vSlice k_code_row, t1⟩]) rfl (fun gs_ => l_move (o_t rfl) (lt rfl)) (fun gs_ => .b rfl rfl (.nil)) (.s rfl (fun gs_ => .d 13 rfl rfl (.nil)) rfl) (fun _ => rfl) rfl (fun _ _ _ => rfl) (.x (f := fun gs_ => ⟨40, vInt .i64, t4⟩) 0 (fun gs_ => [⟨11, vInt .i64, t4⟩]) rfl (fun gs_ => l_move (o_t rfl) (lt rfl)) (fun gs_ => .b rfl rfl (.nil)) (.s rfl (fun gs_ => .d 13 rfl rfl (.nil)) rfl) (fun _ => rfl) rfl (fun _ _ _ => rfl) (.x (f := fun gs_ => ⟨41, vPtr k_code_row, t10⟩) 0 (fun gs_ => [⟨39, vSlice k_code_row, t1⟩, ⟨40, vInt .i64, t4⟩]) rfl (fun gs_ => l_ia (o_t rfl) (o_t rfl) h11 sl108 sz113 (lt rfl)) (fun gs_ => .d 18 rfl rfl (.d 19 rfl rfl (.nil))) (.s rfl (fun gs_ => .d 13 rfl rfl (.nil)) rfl) (fun _ => rfl) rfl (fun _ _ _ => rfl) (.x (f := fun gs_ => ⟨42, vPtr kStr, t10.has⟩) 0 (fun gs_ => [⟨41, vPtr k_code_row, t10⟩]) rfl (fun gs_ => l_fa (o_t rfl) fl_code_row_1 fa113_1 (lt rfl)) (fun gs_ => .d 20 rfl rfl (.nil)) (.s rfl (fun gs_ => .d 13 rfl rfl (.nil)) rfl) (fun _ => rfl) rfl (fun _ _ _ => rfl) (.x (f := fun gs_ => ⟨43, vStr, t10.has⟩) 0 (fun gs_ => [⟨42, vPtr kStr, t10.has⟩]) rfl (fun gs_ => l_ld (o_t rfl) ty9 (lt rfl)) (fun gs_ => .d 21 rfl rfl (.nil)) (.s rfl (fun gs_ => .d 13 rfl rfl (.nil)) rfl) (fun _ => rfl) rfl (fun _ _ _ => rfl) (.x (f := fun gs_ => ⟨44, vBool, t12⟩) 0 (fun gs_ => [⟨38, (k_aIns).v, t8⟩, ⟨43, vStr, t10.has⟩]) rfl (fun gs_ => l_call (ok66 t8 t10.has _ h13) (.cons (o_t rfl) (.cons (o_t rfl) (.nil))) (lt rfl)) (fun gs_ => .d 17 rfl rfl (.d 22 rfl rfl (.nil))) (.s rfl (fun gs_ => .d 13 rfl rfl (.nil)) rfl) (fun _ => rfl) rfl (fun _ _ _ => rfl) (.x (f := fun gs_ => ⟨45, vBool, !t12⟩) 0 (fun gs_ => [⟨44, vBool, t12⟩]) rfl (fun gs_ => l_not (o_t rfl) (lt rfl)) (fun gs_ => .d 23 rfl rfl (.nil)) (.s rfl (fun gs_ => .d 13 rfl rfl (.nil)) rfl) (fun _ => rfl) rfl (fun _ _ _ => rfl) (.x (f := fun gs_ => ⟨46, vBool, !t12⟩) 0 (fun gs_ => [⟨34, vBool, false⟩, ⟨45, vBool, !t12⟩]) rfl (fun gs_ => l_pickf (o_t rfl) rfl (o_t rfl) (lt rfl)) (fun gs_ => .d 13 rfl rfl (.d 24 rfl rfl (.nil))) .n (fun _ => rfl) rfl (fun _ _ _ => rfl) (.x (f := fun gs_ => ⟨47, vBool, !t12⟩) 0 (fun gs_ => [⟨46, vBool, !t12⟩]) rfl (fun gs_ => l_move (o_t rfl) (lt rfl)) (fun gs_ => .d 25 rfl rfl (.nil)) .n (fun _ => rfl) rfl (fun _ _ _ => rfl) (.x (f := fun gs_ => ⟨48, vSlice k_code_row, t1⟩) 0 (fun gs_ => [⟨9, vSlice k_code_row, t1⟩]) rfl (fun gs_ => l_move (o_t rfl) (lt rfl)) (fun gs_ => .b rfl rfl (.nil)) (.s rfl (fun gs_ => .d 26 rfl rfl (.nil)) hb14) (fun _ => rfl) rfl (fun _ _ _ => rfl) (.x (f := fun gs_ => ⟨49, vInt .i64, t4⟩) 0 (fun gs_ => [⟨11, vInt .i64, t4⟩]) rfl (fun gs_ => l_move (o_t rfl) (lt rfl)) (fun gs_ => .b rfl rfl (.nil)) (.s rfl (fun gs_ => .d 26 rfl rfl (.nil)) hb14) (fun _ => rfl) rfl (fun _ _ _ => rfl) (.x (f := fun gs_ => ⟨50, vPtr k_code_row, t15⟩) 0 (fun gs_ => [⟨48, vSlice k_code_row, t1⟩, ⟨49, vInt .i64, t4⟩]) rfl (fun gs_ => l_ia (o_t rfl) (o_t rfl) h16 sl108 sz113 (lt rfl)) (fun gs_ => .d 27 rfl rfl (.d 28 rfl rfl (.nil))) (.s rfl (fun gs_ => .d 26 rfl rfl (.nil)) hb14) (fun _ => rfl) rfl (fun _ _ _ => rfl) (.x (f := fun gs_ => ⟨51, vPtr (kClo Tryz.prog (fun x : code_look × aIns × code_place => [⟨(k_code_look).v, x.1⟩, ⟨(k_aIns).v, x.2.1⟩, ⟨(k_code_place).v, x.2.2⟩]) vBool), t15.fine⟩) 0 (fun gs_ => [⟨50, vPtr k_code_row, t15⟩]) rfl (fun gs_ => l_fa (o_t rfl) fl_code_row_3 fa113_3 (lt rfl)) (fun gs_ => .d 29 rfl rfl (.nil)) (.s rfl (fun gs_ => .d 26 rfl rfl (.nil)) hb14) (fun _ => rfl) rfl (fun _ _ _ => rfl) (.x (f := fun gs_ => ⟨52, vClo Tryz.prog (fun x : code_look × aIns × code_place => [⟨(k_code_look).v, x.1⟩, ⟨(k_aIns).v, x.2.1⟩, ⟨(k_code_place).v, x.2.2⟩]) vBool, t15.fine⟩) 0 (fun gs_ => [⟨51, vPtr (kClo Tryz.prog (fun x : code_look × aIns × code_place => [⟨(k_code_look).v, x.1⟩, ⟨(k_aIns).v, x.2.1⟩, ⟨(k_code_place).v, x.2.2⟩]) vBool), t15.fine⟩]) rfl (fun gs_ => l_ld (o_t rfl) ty111 (lt rfl)) (fun gs_ => .d 30 rfl rfl (.nil)) (.s rfl (fun gs_ => .d 26 rfl rfl (.nil)) hb14) (fun _ => rfl) rfl (fun _ _ _ => rfl) (.x (f := fun gs_ => ⟨53, (k_code_look).v, p0⟩) 0 (fun gs_ => [⟨4, vPtr k_code_look, p0⟩]) rfl (fun gs_ => l_ld (o_t rfl) ty51 (lt rfl)) (fun gs_ => .b rfl rfl (.nil)) (.s rfl (fun gs_ => .d 26 rfl rfl (.nil)) hb14) (fun _ => rfl) rfl (fun _ _ _ => rfl) (.x (f := fun gs_ => ⟨54, vSlice k_aIns, p1⟩) 0 (fun gs_ => [⟨5, vPtr (kSlice k_aIns), p1⟩]) rfl (fun gs_ => l_ld (o_t rfl) ty25 (lt rfl)) (fun gs_ => .b rfl rfl (.nil)) (.s rfl (fun gs_ => .d 26 rfl rfl (.nil)) hb14) (fun _ => rfl) rfl (fun _ _ _ => rfl) (.x (f := fun gs_ => ⟨55, vInt .i64, v15_1⟩) 0 (fun gs_ => [⟨10, vPtr (kInt .i64), v15_1⟩]) rfl (fun gs_ => l_ld (o_t rfl) ty3 (lt rfl)) (fun gs_ => .b rfl rfl (.nil)) (.s rfl (fun gs_ => .d 26 rfl rfl (.nil)) hb14) (fun _ => rfl) rfl (fun _ _ _ => rfl) (.x (f := fun gs_ => ⟨56, vPtr k_aIns, t17⟩) 0 (fun gs_ => [⟨54, vSlice k_aIns, p1⟩, ⟨55, vInt .i64, v15_1⟩]) rfl (fun gs_ => l_ia (o_t rfl) (o_t rfl) h18 sl25 sz75 (lt rfl)) (fun gs_ => .d 33 rfl rfl (.d 34 rfl rfl (.nil))) (.s rfl (fun gs_ => .d 26 rfl rfl (.nil)) hb14) (fun _ => rfl) rfl (fun _ _ _ => rfl) (.x (f := fun gs_ => ⟨57, (k_aIns).v, t17⟩) 0 (fun gs_ => [⟨56, vPtr k_aIns, t17⟩]) rfl (fun gs_ => l_ld (o_t rfl) ty75 (lt rfl)) (fun gs_ => .d 35 rfl rfl (.nil)) (.s rfl (fun gs_ => .d 26 rfl rfl (.nil)) hb14) (fun _ => rfl) rfl (fun _ _ _ => rfl) (.x (f := fun gs_ => ⟨58, vInt .i64, v15_1⟩) 0 (fun gs_ => [⟨10, vPtr (kInt .i64), v15_1⟩]) rfl (fun gs_ => l_ld (o_t rfl) ty3 (lt rfl)) (fun gs_ => .b rfl rfl (.nil)) (.s rfl (fun gs_ => .d 26 rfl rfl (.nil)) hb14) (fun _ => rfl) rfl (fun _ _ _ => rfl) (.x (f := fun gs_ => ⟨59, vSlice k_aIns, p1⟩) 0 (fun gs_ => [⟨5, vPtr (kSlice k_aIns), p1⟩]) rfl (fun gs_ => l_ld (o_t rfl) ty25 (lt rfl)) (fun gs_ => .b rfl rfl (.nil)) (.s rfl (fun gs_ => .d 26 rfl rfl (.nil)) hb14) (fun _ => rfl) rfl (fun _ _ _ => rfl) (.x (f := fun gs_ => ⟨60, vInt .i64, (p1.length : Int)⟩) 0 (fun gs_ => [⟨59, vSlice k_aIns, p1⟩]) rfl (fun gs_ => l_lens (o_t rfl) sl25 (lt rfl)) (fun gs_ => .d 38 rfl rfl (.nil)) (.s rfl (fun gs_ => .d 26 rfl rfl (.nil)) hb14) (fun _ => rfl) rfl (fun _ _ _ => rfl) (.x (f := fun gs_ => ⟨61, vBool, p3⟩) 0 (fun gs_ => [⟨3, vBool, p3⟩]) rfl (fun gs_ => l_move (o_t rfl) (lt rfl)) (fun gs_ => .b rfl rfl (.nil)) (.s rfl (fun gs_ => .d 26 rfl rfl (.nil)) hb14) (fun _ => rfl) rfl (fun _ _ _ => rfl) (.x (f := fun gs_ => ⟨62, (k_code_place).v, (code_place.mk v15_1 (p1.length : Int) p3)⟩) 0 (fun gs_ => [⟨58, vInt .i64, v15_1⟩, ⟨60, vInt .i64, (p1.length : Int)⟩, ⟨61, vBool, p3⟩]) rfl (fun gs_ => l_build zr117 (.cons (o_t rfl) fl_code_place_0 ft117_0 (.cons (o_t rfl) fl_code_place_1 ft117_1 (.cons (o_t rfl) fl_code_place_2 ft117_2 (.nil)))) rfl stb117 (lt rfl)) (fun gs_ => .d 37 rfl rfl (.d 39 rfl rfl (.d 40 rfl rfl (.nil)))) (.s rfl (fun gs_ => .d 26 rfl rfl (.nil)) hb14) (fun _ => rfl) rfl (fun _ _ _ => rfl) (.x (f := fun gs_ => ⟨63, vBool, t19⟩) 0 (fun gs_ => [⟨52, vClo Tryz.prog (fun x : code_look × aIns × code_place => [⟨(k_code_look).v, x.1⟩, ⟨(k_aIns).v, x.2.1⟩, ⟨(k_code_place).v, x.2.2⟩]) vBool, t15.fine⟩, ⟨53, (k_code_look).v, p0⟩, ⟨57, (k_aIns).v, t17⟩, ⟨62, (k_code_place).v, (code_place.mk v15_1 (p1.length : Int) p3)⟩]) rfl (fun gs_ => l_callc (o_t rfl) (x := (p0, t17, (code_place.mk v15_1 (p1.length : Int) p3))) (.cons (o_t rfl) (.cons (o_t rfl) (.cons (o_t rfl) (.nil)))) h20 (lt rfl)) (fun gs_ => .d 31 rfl rfl (.d 32 rfl rfl (.d 36 rfl rfl (.d 41 rfl rfl (.nil))))) (.s rfl (fun gs_ => .d 26 rfl rfl (.nil)) hb14) (fun _ => rfl) rfl (fun _ _ _ => rfl) (.x (f := fun gs_ => ⟨64, vBool, !t19⟩) 0 (fun gs_ => [⟨63, vBool, t19⟩]) rfl (fun gs_ => l_not (o_t rfl) (lt rfl)) (fun gs_ => .d 42 rfl rfl (.nil)) (.s rfl (fun gs_ => .d 26 rfl rfl (.nil)) hb14) (fun _ => rfl) rfl (fun _ _ _ => rfl) (.x (f := fun gs_ => ⟨65, vBool, !t19⟩) 0 (fun gs_ => [⟨47, vBool, !t12⟩, ⟨64, vBool, !t19⟩]) rfl (fun gs_ => l_pickf (o_t rfl) hb14 (o_t rfl) (lt rfl)) (fun gs_ => .d 26 rfl rfl (.d 43 rfl rfl (.nil))) .n (fun _ => rfl) rfl (fun _ _ _ => rfl) (.nil)))))))))))))))))))))))))))))))))))))))))))))) (fun gs_ hgs_ => ?_)
            refine k_seq ?_
            rcases bt (!t19) with hb21 | hb21
            · rw [if_neg (nt hb21)] at hl1_
              refine t_iff (o_t rfl) hb21 ?_
              refine t_skip (k_bn <| k_seq ?_)
              refine t_reg ?_
              refine st (l_bin (o_t rfl) (o_i) .add (lt rfl)) ?_
              refine st (l_move (o_t rfl) (lt rfl)) ?_
              exact r_nil (k_again (k1_, IntKind.wrap .i64 (v15_1 + (1 : Int))) hl1_ (Nat.lt_succ_self _) (Sub.cons rfl (Sub.cons rfl (Sub.cons rfl (Sub.cons rfl (Sub.cons rfl (Sub.cons rfl (Sub.cons rfl (Sub.nil _)))))))) rfl)
            · rw [if_pos hb21] at hl1_
              refine t_ift (o_t rfl) hb21 ?_
              refine t_seq ?_
              refine t_reg ?_
              refine st (l_assign (o_b) (lt rfl)) ?_
              refine r_nil (k_seq ?_)
              cases hl1_
              dsimp only [Ex.elim] at hx1_
              cases hx1_
              exact t_ret (k_br <| k_tr <| k_tr <| k_br <| k_brk_r <| k_tr <| k_ret () rfl rfl rfl rfl rfl)
          · rw [if_pos hb14] at hl1_
            refine t_draw [(0, fun gs_ => some ⟨21, vInt .i64, t4⟩), (0, fun gs_ => some ⟨22, vBool, decide (t4 < (0 : Int))⟩), (0, fun gs_ => some ⟨23, vBool, decide (t4 < (0 : Int))⟩), (0, fun gs_ => some ⟨24, vBool, p2⟩), (0, fun gs_ => some ⟨25, vBool, p2⟩), (0, fun _ => some ⟨26, vUnd, ()⟩), (0, fun _ => some ⟨27, vUnd, ()⟩), (0, fun _ => some ⟨28, vUnd, ()⟩), (0, fun _ => some ⟨29, vUnd, ()⟩), (0, fun _ => some ⟨30, vUnd, ()⟩), (0, fun _ => some ⟨31, vUnd, ()⟩), (0, fun gs_ => some ⟨32, vBool, false⟩), (0, fun gs_ => some ⟨33, vBool, false⟩), (0, fun gs_ => some ⟨34, vBool, false⟩), (0, fun gs_ => some ⟨35, vSlice k_aIns, p1⟩), (0, fun gs_ => some ⟨36, vInt .i64, v15_1⟩), (0, fun gs_ => some ⟨37, vPtr k_aIns, t8⟩), (0, fun gs_ => some ⟨38, (k_aIns).v, t8⟩), (0, fun gs_ => some ⟨39, vSlice k_code_row, t1⟩), (0, fun gs_ => some ⟨40, vInt .i64, t4⟩), (0, fun gs_ => some ⟨41, vPtr k_code_row, t10⟩), (0, fun gs_ => some ⟨42, vPtr kStr, t10.has⟩), (0, fun gs_ => some ⟨43, vStr, t10.has⟩), (0, fun gs_ => some ⟨44, vBool, t12⟩), (0, fun gs_ => some ⟨45, vBool, !t12⟩), (0, fun gs_ => some ⟨46, vBool, !t12⟩), (0, fun gs_ => some ⟨47, vBool, !t12⟩), (0, fun _ => some ⟨48, vUnd, ()⟩), (0, fun _ => some ⟨49, vUnd, ()⟩), (0, fun _ => some ⟨50, vUnd, ()⟩), (0, fun _ => some ⟨51, vUnd, ()⟩), (0, fun _ => some ⟨52, vUnd, ()⟩), (0, fun _ => some ⟨53, vUnd, ()⟩), (0, fun _ => some ⟨54, vUnd, ()⟩), (0, fun _ => some ⟨55, vUnd, ()⟩), (0, fun _ => some ⟨56, vUnd, ()⟩), (0, fun _ => some ⟨57, vUnd, ()⟩), (0, fun _ => some ⟨58, vUnd, ()⟩), (0, fun _ => some ⟨59, vUnd, ()⟩), (0, fun _ => some ⟨60, vUnd, ()⟩), (0, fun _ => some ⟨61, vUnd, ()⟩), (0, fun _ => some ⟨62, vUnd, ()⟩), (0, fun _ => some ⟨63, vUnd, ()⟩), (0, fun _ => some ⟨64, vUnd, ()⟩), (0, fun gs_ => some ⟨65, vBool, true⟩)] mixed rfl rfl (fun _ => []) [] rfl (.x (f := fun gs_ => ⟨21, vInt .i64, t4⟩) 0 (fun gs_ => [⟨11, vInt .i64, t4⟩]) rfl (fun gs_ => l_move (o_t rfl) (lt rfl)) (fun gs_ => .b rfl rfl (.nil)) .n (fun _ => rfl) rfl (fun _ _ _ => rfl) (.x (f := fun gs_ => ⟨22, vBool, decide (t4 < (0 : Int))⟩) 0 (fun gs_ => [⟨21, vInt .i64, t4⟩]) rfl (fun gs_ => l_cmp (o_t rfl) (o_i) .lss (lt rfl)) (fun gs_ => .d 0 rfl rfl (.nil)) .n (fun _ => rfl) rfl (fun _ _ _ => rfl) (.x (f := fun gs_ => ⟨23, vBool, decide (t4 < (0 : Int))⟩) 0 (fun gs_ => [⟨22, vBool, decide (t4 < (0 : Int))⟩]) rfl (fun gs_ => l_move (o_t rfl) (lt rfl)) (fun gs_ => .d 1 rfl rfl (.nil)) .n (fun _ => rfl) rfl (fun _ _ _ => rfl) (.x (f := fun gs_ => ⟨24, vBool, p2⟩) 0 (fun gs_ => [⟨2, vBool, p2⟩]) rfl (fun gs_ => l_move (o_t rfl) (lt rfl)) (fun gs_ => .b rfl rfl (.nil)) (.s rfl (fun gs_ => .d 2 rfl rfl (.nil)) hb6) (fun _ => rfl) rfl (fun _ _ _ => rfl) (.x (f := fun gs_ => ⟨25, vBool, p2⟩) 0 (fun gs_ => [⟨24, vBool, p2⟩]) rfl (fun gs_ => l_move (o_t rfl) (lt rfl)) (fun gs_ => .d 3 rfl rfl (.nil)) (.s rfl (fun gs_ => .d 2 rfl rfl (.nil)) hb6) (fun _ => rfl) rfl (fun _ _ _ => rfl) (.n (fun gs_ => ⟨25, vBool, p2⟩) rfl (fun _ => rfl) (fun gs_ => .d 4 rfl rfl (.nil)) (fun _ => noy_b (b := true) hb7) (lt rfl) (.n (fun gs_ => ⟨25, vBool, p2⟩) rfl (fun _ => rfl) (fun gs_ => .d 4 rfl rfl (.nil)) (fun _ => noy_b (b := true) hb7) (lt rfl) (.n (fun gs_ => ⟨25, vBool, p2⟩) rfl (fun _ => rfl) (fun gs_ => .d 4 rfl rfl (.nil)) (fun _ => noy_b (b := true) hb7) (lt rfl) (.n (fun gs_ => ⟨25, vBool, p2⟩) rfl (fun _ => rfl) (fun gs_ => .d 4 rfl rfl (.nil)) (fun _ => noy_b (b := true) hb7) (lt rfl) (.n (fun gs_ => ⟨25, vBool, p2⟩) rfl (fun _ => rfl) (fun gs_ => .d 4 rfl rfl (.nil)) (fun _ => noy_b (b := true) hb7) (lt rfl) (.n (fun gs_ => ⟨25, vBool, p2⟩) rfl (fun _ => rfl) (fun gs_ => .d 4 rfl rfl (.nil)) (fun _ => noy_b (b := true) hb7) (lt rfl) (.x (f := fun gs_ => ⟨32, vBool, false⟩) 0 (fun gs_ => [⟨25, vBool, p2⟩]) rfl (fun gs_ => l_pickf (o_t rfl) hb7 (o_b) (lt rfl)) (fun gs_ => .d 4 rfl rfl (.nil)) (.s rfl (fun gs_ => .d 2 rfl rfl (.nil)) hb6) (fun _ => rfl) rfl (fun _ _ _ => rfl) (.x (f := fun gs_ => ⟨33, vBool, false⟩) 0 (fun gs_ => [⟨23, vBool, decide (t4 < (0 : Int))⟩, ⟨32, vBool, false⟩]) rfl (fun gs_ => l_pickf (o_t rfl) hb6 (o_t rfl) (lt rfl)) (fun gs_ => .d 2 rfl rfl (.d 11 rfl rfl (.nil))) .n (fun _ => rfl) rfl (fun _ _ _ => rfl) (.x (f := fun gs_ => ⟨34, vBool, false⟩) 0 (fun gs_ => [⟨33, vBool, false⟩]) rfl (fun gs_ => l_move (o_t rfl) (lt rfl)) (fun gs_ => .d 12 rfl rfl (.nil)) .n (fun _ => rfl) rfl (fun _ _ _ => rfl) (.x (f := fun gs_ => ⟨35, vSlice k_aIns, p1⟩) 0 (fun gs_ => [⟨5, vPtr (kSlice k_aIns), p1⟩]) rfl (fun gs_ => l_ld (o_t rfl) ty25 (lt rfl)) (fun gs_ => .b rfl rfl (.nil)) (.s rfl (fun gs_ => .d 13 rfl rfl (.nil)) rfl) (fun _ => rfl) rfl (fun _ _ _ => rfl) (.x (f := fun gs_ => ⟨36, vInt .i64, v15_1⟩) 0 (fun gs_ => [⟨10, vPtr (kInt .i64), v15_1⟩]) rfl (fun gs_ => l_ld (o_t rfl) ty3 (lt rfl)) (fun gs_ => .b rfl rfl (.nil)) (.s rfl (fun gs_ => .d 13 rfl rfl (.nil)) rfl) (fun _ => rfl) rfl (fun _ _ _ => rfl) (.x (f := fun gs_ => ⟨37, vPtr k_aIns, t8⟩) 0 (fun gs_ => [⟨35, vSlice k_aIns, p1⟩, ⟨36, vInt .i64, v15_1⟩]) rfl (fun gs_ => l_ia (o_t rfl) (o_t rfl) h9 sl25 sz75 (lt rfl)) (fun gs_ => .d 14 rfl rfl (.d 15 rfl rfl (.nil))) (.s rfl (fun gs_ => .d 13 rfl rfl (.nil)) rfl) (fun _ => rfl) rfl (fun _ _ _ => rfl) (.x (f := fun gs_ => ⟨38, (k_aIns).v, t8⟩) 0 (fun gs_ => [⟨37, vPtr k_aIns, t8⟩]) rfl (fun gs_ => l_ld (o_t rfl) ty75 (lt rfl)) (fun gs_ => .d 16 rfl rfl (.nil)) (.s rfl (fun gs_ => .d 13 rfl rfl (.nil)) rfl) (fun _ => rfl) rfl (fun _ _ _ => rfl) (.x (f := fun gs_ => ⟨39, vSlice k_code_row, t1⟩) 0 (fun gs_ => [⟨9, vSlice k_code_row, t1⟩]) rfl (fun gs_ => l_move (o_t rfl) (lt rfl)) (fun gs_ => .b rfl rfl (.nil)) (.s rfl (fun gs_ => .d 13 rfl rfl (.nil)) rfl) (fun _ => rfl) rfl (fun _ _ _ => rfl) (.x (f := fun gs_ => ⟨40, vInt .i64, t4⟩) 0 (fun gs_ => [⟨11, vInt .i64, t4⟩]) rfl (fun gs_ => l_move (o_t rfl) (lt rfl)) (fun gs_ => .b rfl rfl (.nil)) (.s rfl (fun gs_ => .d 13 rfl rfl (.nil)) rfl) (fun _ => rfl) rfl (fun _ _ _ => rfl) (.x (f := fun gs_ => ⟨41, vPtr k_code_row, t10⟩) 0 (fun gs_ => [⟨39, vSlice k_code_row, t1⟩, ⟨40, vInt .i64, t4⟩]) rfl (fun gs_ => l_ia (o_t rfl) (o_t rfl) h11 sl108 sz113 (lt rfl)) (fun gs_ => .d 18 rfl rfl (.d 19 rfl rfl (.nil))) (.s rfl (fun gs_ => .d 13 rfl rfl (.nil)) rfl) (fun _ => rfl) rfl (fun _ _ _ => rfl) (.x (f := fun gs_ => ⟨42, vPtr kStr, t10.has⟩) 0 (fun gs_ => [⟨41, vPtr k_code_row, t10⟩]) rfl (fun gs_ => l_fa (o_t rfl) fl_code_row_1 fa113_1 (lt rfl)) (fun gs_ => .d 20 rfl rfl (.nil)) (.s rfl (fun gs_ => .d 13 rfl rfl (.nil)) rfl) (fun _ => rfl) rfl (fun _ _ _ => rfl) (.x (f := fun gs_ => ⟨43, vStr, t10.has⟩) 0 (fun gs_ => [⟨42, vPtr kStr, t10.has⟩]) rfl (fun gs_ => l_ld (o_t rfl) ty9 (lt rfl)) (fun gs_ => .d 21 rfl rfl (.nil)) (.s rfl (fun gs_ => .d 13 rfl rfl (.nil)) rfl) (fun _ => rfl) rfl (fun _ _ _ => rfl) (.x (f := fun gs_ => ⟨44, vBool, t12⟩) 0 (fun gs_ => [⟨38, (k_aIns).v, t8⟩, ⟨43, vStr, t10.has⟩]) rfl (fun gs_ => l_call (ok66 t8 t10.has _ h13) (.cons (o_t rfl) (.cons (o_t rfl) (.nil))) (lt rfl)) (fun gs_ => .d 17 rfl rfl (.d 22 rfl rfl (.nil))) (.s rfl (fun gs_ => .d 13 rfl rfl (.nil)) rfl) (fun _ => rfl) rfl (fun _ _ _ => rfl) (.x (f := fun gs_ => ⟨45, vBool, !t12⟩) 0 (fun gs_ => [⟨44, vBool, t12⟩]) rfl (fun gs_ => l_not (o_t rfl) (lt rfl)) (fun gs_ => .d 23 rfl rfl (.nil)) (.s rfl (fun gs_ => .d 13 rfl rfl (.nil)) rfl) (fun _ => rfl) rfl (fun _ _ _ => rfl) (.x (f := fun gs_ => ⟨46, vBool, !t12⟩) 0 (fun gs_ => [⟨34, vBool, false⟩, ⟨45, vBool, !t12⟩]) rfl (fun gs_ => l_pickf (o_t rfl) rfl (o_t rfl) (lt rfl)) (fun gs_ => .d 13 rfl rfl (.d 24 rfl rfl (.nil))) .n (fun _ => rfl) rfl (fun _ _ _ => rfl) (.x (f := fun gs_ => ⟨47, vBool, !t12⟩) 0 (fun gs_ => [⟨46, vBool, !t12⟩]) rfl (fun gs_ => l_move (o_t rfl) (lt rfl)) (fun gs_ => .d 25 rfl rfl (.nil)) .n (fun _ => rfl) rfl (fun _ _ _ => rfl) (.n (fun gs_ => ⟨47, vBool, !t12⟩) rfl (fun _ => rfl) (fun gs_ => .d 26 rfl rfl (.nil)) (fun _ => noy_b (b := false) hb14) (lt rfl) (.n (fun gs_ => ⟨47, vBool, !t12⟩) rfl (fun _ => rfl) (fun gs_ => .d 26 rfl rfl (.nil)) (fun _ => noy_b (b := false) hb14) (lt rfl) (.n (fun gs_ => ⟨47, vBool, !t12⟩) rfl (fun _ => rfl) (fun gs_ => .d 26 rfl rfl (.nil)) (fun _ => noy_b (b := false) hb14) (lt rfl) (.n (fun gs_ => ⟨47, vBool, !t12⟩) rfl (fun _ => rfl) (fun gs_ => .d 26 rfl rfl (.nil)) (fun _ => noy_b (b := false) hb14) (lt rfl) (.n (fun gs_ => ⟨47, vBool, !t12⟩) rfl (fun _ => rfl) (fun gs_ => .d 26 rfl rfl (.nil)) (fun _ => noy_b (b := false) hb14) (lt rfl) (.n (fun gs_ => ⟨47, vBool, !t12⟩) rfl (fun _ => rfl) (fun gs_ => .d 26 rfl rfl (.nil)) (fun _ => noy_b (b := false) hb14) (lt rfl) (.n (fun gs_ => ⟨47, vBool, !t12⟩) rfl (fun _ => rfl) (fun gs_ => .d 26 rfl rfl (.nil)) (fun _ => noy_b (b := false) hb14) (lt rfl) (.n (fun gs_ => ⟨47, vBool, !t12⟩) rfl (fun _ => rfl) (fun gs_ => .d 26 rfl rfl (.nil)) (fun _ => noy_b (b := false) hb14) (lt rfl) (.n (fun gs_ => ⟨47, vBool, !t12⟩) rfl (fun _ => rfl) (fun gs_ => .d 26 rfl rfl (.nil)) (fun _ => noy_b (b := false) hb14) (lt rfl) (.n (fun gs_ => ⟨47, vBool, !t12⟩) rfl (fun _ => rfl) (fun gs_ => .d 26 rfl rfl (.nil)) (fun _ => noy_b (b := false) hb14) (lt rfl) (.n (fun gs_ => ⟨47, vBool, !t12⟩) rfl (fun _ => rfl) (fun gs_ => .d 26 rfl rfl (.nil)) (fun _ => noy_b (b := false) hb14) (lt rfl) (.n (fun gs_ => ⟨47, vBool, !t12⟩) rfl (fun _ => rfl) (fun gs_ => .d 26 rfl rfl (.nil)) (fun _ => noy_b (b := false) hb14) (lt rfl) (.n (fun gs_ => ⟨47, vBool, !t12⟩) rfl (fun _ => rfl) (fun gs_ => .d 26 rfl rfl (.nil)) (fun _ => noy_b (b := false) hb14) (lt rfl) (.n (fun gs_ => ⟨47, vBool, !t12⟩) rfl (fun _ => rfl) (fun gs_ => .d 26 rfl rfl (.nil)) (fun _ => noy_b (b := false) hb14) (lt rfl) (.n (fun gs_ => ⟨47, vBool, !t12⟩) rfl (fun _ => rfl) (fun gs_ => .d 26 rfl rfl (.nil)) (fun _ => noy_b (b := false) hb14) (lt rfl) (.n (fun gs_ => ⟨47, vBool, !t12⟩) rfl (fun _ => rfl) (fun gs_ => .d 26 rfl rfl (.nil)) (fun _ => noy_b (b := false) hb14) (lt rfl) (.n (fun gs_ => ⟨47, vBool, !t12⟩) rfl (fun _ => rfl) (fun gs_ => .d 26 rfl rfl (.nil)) (fun _ => noy_b (b := false) hb14) (lt rfl) (.x (f := fun gs_ => ⟨65, vBool, true⟩) 0 (fun gs_ => [⟨47, vBool, !t12⟩]) rfl (fun gs_ => l_pickt (o_t rfl) hb14 (o_b) (lt rfl)) (fun gs_ => .d 26 rfl rfl (.nil)) .n (fun _ => rfl) rfl (fun _ _ _ => rfl) (.nil)))))))))))))))))))))))))))))))))))))))))))))) (fun gs_ hgs_ => ?_)
            refine k_seq ?_
            refine t_ift (o_t rfl) rfl ?_
            refine t_seq ?_
            refine t_reg ?_
            refine st (l_assign (o_b) (lt rfl)) ?_
            refine r_nil (k_seq ?_)
            cases hl1_
            dsimp only [Ex.elim] at hx1_
            cases hx1_
            exact t_ret (k_br <| k_tr <| k_tr <| k_br <| k_brk_r <| k_tr <| k_ret () rfl rfl rfl rfl rfl)
        · rw [if_pos hb7] at hl1_
          obtain ⟨t22, h23, hl1_⟩ := bs hl1_
          rcases bt (!t22.plain) with hb24 | hb24
          · rw [if_neg (nt hb24)] at hl1_
            obtain ⟨t25, h26, hl1_⟩ := bs hl1_
            obtain ⟨t27, h28, hl1_⟩ := bs hl1_
            obtain ⟨t29, h30, hl1_⟩ := bs hl1_
            rcases bt (!t29) with hb31 | hb31
            · rw [if_neg (nt hb31)] at hl1_
              obtain ⟨t32, h33, hl1_⟩ := bs hl1_
              obtain ⟨t34, h35, hl1_⟩ := bs hl1_
              obtain ⟨t36, h37, hl1_⟩ := bs hl1_
              refine t_draw [(0, fun gs_ => some ⟨21, vInt .i64, t4⟩), (0, fun gs_ => some ⟨22, vBool, decide (t4 < (0 : Int))⟩), (0, fun gs_ => some ⟨23, vBool, decide (t4 < (0 : Int))⟩), (0, fun gs_ => some ⟨24, vBool, p2⟩), (0, fun gs_ => some ⟨25, vBool, p2⟩), (0, fun gs_ => some ⟨26, vSlice k_code_row, t1⟩), (0, fun gs_ => some ⟨27, vInt .i64, t4⟩), (0, fun gs_ => some ⟨28, vPtr k_code_row, t22⟩), (0, fun gs_ => some ⟨29, vPtr kBool, t22.plain⟩), (0, fun gs_ => some ⟨30, vBool, t22.plain⟩), (0, fun gs_ => some ⟨31, vBool, !t22.plain⟩), (0, fun gs_ => some ⟨32, vBool, !t22.plain⟩), (0, fun gs_ => some ⟨33, vBool, !t22.plain⟩), (0, fun gs_ => some ⟨34, vBool, !t22.plain⟩), (0, fun gs_ => some ⟨35, vSlice k_aIns, p1⟩), (0, fun gs_ => some ⟨36, vInt .i64, v15_1⟩), (0, fun gs_ => some ⟨37, vPtr k_aIns, t25⟩), (0, fun gs_ => some ⟨38, (k_aIns).v, t25⟩), (0, fun gs_ => some ⟨39, vSlice k_code_row, t1⟩), (0, fun gs_ => some ⟨40, vInt .i64, t4⟩), (0, fun gs_ => some ⟨41, vPtr k_code_row, t27⟩), (0, fun gs_ => some ⟨42, vPtr kStr, t27.has⟩), (0, fun gs_ => some ⟨43, vStr, t27.has⟩), (0, fun gs_ => some ⟨44, vBool, t29⟩), (0, fun gs_ => some ⟨45, vBool, !t29⟩), (0, fun gs_ => some ⟨46, vBool, !t29⟩), (0, fun gs_ => some ⟨47, vBool, !t29⟩), (0, fun gs_ => some ⟨48, vSlice k_code_row, t1⟩), (0, fun gs_ => some ⟨49, vInt .i64, t4⟩), (0, fun gs_ => some ⟨50, vPtr k_code_row, t32⟩), (0, fun gs_ => some ⟨51, vPtr (kClo Tryz.prog (fun x : code_look × aIns × code_place => [⟨(k_code_look).v, x.1⟩, ⟨(k_aIns).v, x.2.1⟩, ⟨(k_code_place).v, x.2.2⟩]) vBool), t32.fine⟩), (0, fun gs_ => some ⟨52, vClo Tryz.prog (fun x : code_look × aIns × code_place => [⟨(k_code_look).v, x.1⟩, ⟨(k_aIns).v, x.2.1⟩, ⟨(k_code_place).v, x.2.2⟩]) vBool, t32.fine⟩), (0, fun gs_ => some ⟨53, (k_code_look).v, p0⟩), (0, fun gs_ => some ⟨54, vSlice k_aIns, p1⟩), (0, fun gs_ => some ⟨55, vInt .i64, v15_1⟩), (0, fun gs_ => some ⟨56, vPtr k_aIns, t34⟩), (0, fun gs_ => some ⟨57, (k_aIns).v, t34⟩), (0, fun gs_ => some ⟨58, vInt .i64, v15_1⟩), (0, fun gs_ => some ⟨59, vSlice k_aIns, p1⟩), (0, fun gs_ => some ⟨60, vInt .i64, (p1.length : Int)⟩), (0, fun gs_ => some ⟨61, vBool, p3⟩), (0, fun gs_ => some ⟨62, (k_code_place).v, (code_place.mk v15_1 (p1.length : Int) p3)⟩), (0, fun gs_ => some ⟨63, vBool, t36⟩), (0, fun gs_ => some ⟨64, vBool, !t36⟩), (0, fun gs_ => some ⟨65, vBool, !t36⟩)] mixed rfl rfl (fun _ => []) [] rfl (.x (f := fun gs_ => ⟨21, vInt .i64, t4⟩) 0 (fun gs_ => [⟨11, vInt .i64, t4⟩]) rfl (fun gs_ => l_move (o_t rfl) (lt rfl)) (fun gs_ => .b rfl rfl (.nil)) .n (fun _ => rfl) rfl (fun _ _ _ => rfl) (.x (f := fun gs_ => ⟨22, vBool, decide (t4 < (0 : Int))⟩) 0 (fun gs_ => [⟨21, vInt .i64, t4⟩]) rfl (fun gs_ => l_cmp (o_t rfl) (o_i) .lss (lt rfl)) (fun gs_ => .d 0 rfl rfl (.nil)) .n (fun _ => rfl) rfl (fun _ _ _ => rfl) (.x (f := fun gs_ => ⟨23, vBool, decide (t4 < (0 : Int))⟩) 0 (fun gs_ => [⟨22, vBool, decide (t4 < (0 : Int))⟩]) rfl (fun gs_ => l_move (o_t rfl) (lt rfl)) (fun gs_ => .d 1 rfl rfl (.nil)) .n (fun _ => rfl) rfl (fun _ _ _ => rfl) (.x (f := fun gs_ => ⟨24, vBool, p2⟩) 0 (fun gs_ => [⟨2, vBool, p2⟩]) rfl (fun gs_ => l_move (o_t rfl) (lt rfl)) (fun gs_ => .b rfl rfl (.nil)) (.s rfl (fun gs_ => .d 2 rfl rfl (.nil)) hb6) (fun _ => rfl) rfl (fun _ _ _ => rfl) (.x (f := fun gs_ => ⟨25, vBool, p2⟩) 0 (fun gs_ => [⟨24, vBool, p2⟩]) rfl (fun gs_ => l_move (o_t rfl) (lt rfl)) (fun gs_ => .d 3 rfl rfl (.nil)) (.s rfl (fun gs_ => .d 2 rfl rfl (.nil)) hb6) (fun _ => rfl) rfl (fun _ _ _ => rfl) (.x (f := fun gs_ => ⟨26, vSlice k_code_row, t1⟩) 0 (fun gs_ => [⟨9, vSlice k_code_row, t1⟩]) rfl (fun gs_ => l_move (o_t rfl) (lt rfl)) (fun gs_ => .b rfl rfl (.nil)) (.s rfl (fun gs_ => .d 4 rfl rfl (.nil)) hb7) (fun _ => rfl) rfl (fun _ _ _ => rfl) (.x (f := fun gs_ => ⟨27, vInt .i64, t4⟩) 0 (fun gs_ => [⟨11, vInt .i64, t4⟩]) rfl (fun gs_ => l_move (o_t rfl) (lt rfl)) (fun gs_ => .b rfl rfl (.nil)) (.s rfl (fun gs_ => .d 4 rfl rfl (.nil)) hb7) (fun _ => rfl) rfl (fun _ _ _ => rfl) (.x (f := fun gs_ => ⟨28, vPtr k_code_row, t22⟩) 0 (fun gs_ => [⟨26, vSlice k_code_row, t1⟩, ⟨27, vInt .i64, t4⟩]) rfl (fun gs_ => l_ia (o_t rfl) (o_t rfl) h23 sl108 sz113 (lt rfl)) (fun gs_ => .d 5 rfl rfl (.d 6 rfl rfl (.nil))) (.s rfl (fun gs_ => .d 4 rfl rfl (.nil)) hb7) (fun _ => rfl) rfl (fun _ _ _ => rfl) (.x (f := fun gs_ => ⟨29, vPtr kBool, t22.plain⟩) 0 (fun gs_ => [⟨28, vPtr k_code_row, t22⟩]) rfl (fun gs_ => l_fa (o_t rfl) fl_code_row_2 fa113_2 (lt rfl)) (fun gs_ => .d 7 rfl rfl (.nil)) (.s rfl (fun gs_ => .d 4 rfl rfl (.nil)) hb7) (fun _ => rfl) rfl (fun _ _ _ => rfl) (.x (f := fun gs_ => ⟨30, vBool, t22.plain⟩) 0 (fun gs_ => [⟨29, vPtr kBool, t22.plain⟩]) rfl (fun gs_ => l_ld (o_t rfl) ty4 (lt rfl)) (fun gs_ => .d 8 rfl rfl (.nil)) (.s rfl (fun gs_ => .d 4 rfl rfl (.nil)) hb7) (fun _ => rfl) rfl (fun _ _ _ => rfl) (.x (f := fun gs_ => ⟨31, vBool, !t22.plain⟩) 0 (fun gs_ => [⟨30, vBool, t22.plain⟩]) rfl (fun gs_ => l_not (o_t rfl) (lt rfl)) (fun gs_ => .d 9 rfl rfl (.nil)) (.s rfl (fun gs_ => .d 4 rfl rfl (.nil)) hb7) (fun _ => rfl) rfl (fun _ _ _ => rfl) (.x (f := fun gs_ => ⟨32, vBool, !t22.plain⟩) 0 (fun gs_ => [⟨25, vBool, p2⟩, ⟨31, vBool, !t22.plain⟩]) rfl (fun gs_ => l_pickt (o_t rfl) hb7 (o_t rfl) (lt rfl)) (fun gs_ => .d 4 rfl rfl (.d 10 rfl rfl (.nil))) (.s rfl (fun gs_ => .d 2 rfl rfl (.nil)) hb6) (fun _ => rfl) rfl (fun _ _ _ => rfl) (.x (f := fun gs_ => ⟨33, vBool, !t22.plain⟩) 0 (fun gs_ => [⟨23, vBool, decide (t4 < (0 : Int))⟩, ⟨32, vBool, !t22.plain⟩]) rfl (fun gs_ => l_pickf (o_t rfl) hb6 (o_t rfl) (lt rfl)) (fun gs_ => .d 2 rfl rfl (.d 11 rfl rfl (.nil))) .n (fun _ => rfl) rfl (fun _ _ _ => rfl) (.x (f := fun gs_ => ⟨34, vBool, !t22.plain⟩) 0 (fun gs_ => [⟨33, vBool, !t22.plain⟩]) rfl (fun gs_ => l_move (o_t rfl) (lt rfl)) (fun gs_ => .d 12 rfl rfl (.nil)) .n (fun _ => rfl) rfl (fun _ _ _ => rfl) (.x (f := fun gs_ => ⟨35, vSlice k_aIns, p1⟩) 0 (fun gs_ => [⟨5, vPtr (kSlice k_aIns), p1⟩]) rfl (fun gs_ => l_ld (o_t rfl) ty25 (lt rfl)) (fun gs_ => .b rfl rfl (.nil)) (.s rfl (fun gs_ => .d 13 rfl rfl (.nil)) hb24) (fun _ => rfl) rfl (fun _ _ _ => rfl) (.x (f := fun gs_ => ⟨36, vInt .i64, v15_1⟩) 0 (fun gs_ => [⟨10, vPtr (kInt .i64), v15_1⟩]) rfl (fun gs_ => l_ld (o_t rfl) ty3 (lt rfl)) (fun gs_ => .b rfl rfl (.nil)) (.s rfl (fun gs_ => .d 13 rfl rfl (.nil)) hb24) (fun _ => rfl) rfl (fun _ _ _ => rfl) (.x (f := fun gs_ => ⟨37, vPtr k_aIns, t25⟩) 0 (fun gs_ => [⟨35, vSlice k_aIns, p1⟩, ⟨36, vInt .i64, v15_1⟩]) rfl (fun gs_ => l_ia (o_t rfl) (o_t rfl) h26 sl25 sz75 (lt rfl)) (fun gs_ => .d 14 rfl rfl (.d 15 rfl rfl (.nil))) (.s rfl (fun gs_ => .d 13 rfl rfl (.nil)) hb24) (fun _ => rfl) rfl (fun _ _ _ => rfl) (.x (f := fun gs_ => ⟨38, (k_aIns).v, t25⟩) 0 (fun gs_ => [⟨37, vPtr k_aIns, t25⟩]) rfl (fun gs_ => l_ld (o_t rfl) ty75 (lt rfl)) (fun gs_ => .d 16 rfl rfl (.nil)) (.s rfl (fun gs_ => .d 13 rfl rfl (.nil)) hb24) (fun _ => rfl) rfl (fun _ _ _ => rfl) (.x (f := fun gs_ => ⟨39, vSlice k_code_row, t1⟩) 0 (fun gs_ => [⟨9, vSlice k_code_row, t1⟩]) rfl (fun gs_ => l_move (o_t rfl) (lt rfl)) (fun gs_ => .b rfl rfl (.nil)) (.s rfl (fun gs_ => .d 13 rfl rfl (.nil)) hb24) (fun _ => rfl) rfl (fun _ _ _ => rfl) (.x (f := fun gs_ => ⟨40, vInt .i64, t4⟩) 0 (fun gs_ => [⟨11, vInt .i64, t4⟩]) rfl (fun gs_ => l_move (o_t rfl) (lt rfl)) (fun gs_ => .b rfl rfl (.nil)) (.s rfl (fun gs_ => .d 13 rfl rfl (.nil)) hb24) (fun _ => rfl) rfl (fun _ _ _ => rfl) (.x (f := fun gs_ => ⟨41, vPtr k_code_row, t27⟩) 0 (fun gs_ => [⟨39, vSlice k_code_row, t1⟩, ⟨40, vInt .i64, t4⟩]) rfl (fun gs_ => l_ia (o_t rfl) (o_t rfl) h28 sl108 sz113 (lt rfl)) (fun gs_ => .d 18 rfl rfl (.d 19 rfl rfl (.nil))) (.s rfl (fun gs_ => .d 13 rfl rfl (.nil)) hb24) (fun _ => rfl) rfl (fun _ _ _ => rfl) (.x (f := fun gs_ => ⟨42, vPtr kStr, t27.has⟩) 0 (fun gs_ => [⟨41, vPtr k_code_row, t27⟩]) rfl (fun gs_ => l_fa (o_t rfl) fl_code_row_1 fa113_1 (lt rfl)) (fun gs_ => .d 20 rfl rfl (.nil)) (.s rfl (fun gs_ => .d 13 rfl rfl (.nil)) hb24) (fun _ => rfl) rfl (fun _ _ _ => rfl) (.x (f := fun gs_ => ⟨43, vStr, t27.has⟩) 0 (fun gs_ => [⟨42, vPtr kStr, t27.has⟩]) rfl (fun gs_ => l_ld (o_t rfl) ty9 (lt rfl)) (fun gs_ => .d 21 rfl rfl (.nil)) (.s rfl (fun gs_ => .d 13 rfl rfl (.nil)) hb24) (fun _ => rfl) rfl (fun _ _ _ => rfl) (.x (f := fun gs_ => ⟨44, vBool, t29⟩) 0 (fun gs_ => [⟨38, (k_aIns).v, t25⟩, ⟨43, vStr, t27.has⟩]) rfl (fun gs_ => l_call (ok66 t25 t27.has _ h30) (.cons (o_t rfl) (.cons (o_t rfl) (.nil))) (lt rfl)) (fun gs_ => .d 17 rfl rfl (.d 22 rfl rfl (.nil))) (.s rfl (fun gs_ => .d 13 rfl rfl (.nil)) hb24) (fun _ => rfl) rfl (fun _ _ _ => rfl) (.x (f := fun gs_ => ⟨45, vBool, !t29⟩) 0 (fun gs_ => [⟨44, vBool, t29⟩]) rfl (fun gs_ => l_not (o_t rfl) (lt rfl)) (fun gs_ => .d 23 rfl rfl (.nil)) (.s rfl (fun gs_ => .d 13 rfl rfl (.nil)) hb24) (fun _ => rfl) rfl (fun _ _ _ => rfl) (.x (f := fun gs_ => ⟨46, vBool, !t29⟩) 0 (fun gs_ => [⟨34, vBool, !t22.plain⟩, ⟨45, vBool, !t29⟩]) rfl (fun gs_ => l_pickf (o_t rfl) hb24 (o_t rfl) (lt rfl)) (fun gs_ => .d 13 rfl rfl (.d 24 rfl rfl (.nil))) .n (fun _ => rfl) rfl (fun _ _ _ => rfl) (.x (f := fun gs_ => ⟨47, vBool, !t29⟩) 0 (fun gs_ => [⟨46, vBool, !t29⟩]) rfl (fun gs_ => l_move (o_t rfl) (lt rfl)) (fun gs_ => .d 25 rfl rfl (.nil)) .n (fun _ => rfl) rfl (fun _ _ _ => rfl) (.x (f := fun gs_ => ⟨48, vSlice k_code_row, t1⟩) 0 (fun gs_ => [⟨9, vSlice k_code_row, t1⟩]) rfl (fun gs_ => l_move (o_t rfl) (lt rfl)) (fun gs_ => .b rfl rfl (.nil)) (.s rfl (fun gs_ => .d 26 rfl rfl (.nil)) hb31) (fun _ => rfl) rfl (fun _ _ _ => rfl) (.x (f := fun gs_ => ⟨49, vInt .i64, t4⟩) 0 (fun gs_ => [⟨11, vInt .i64, t4⟩]) rfl (fun gs_ => l_move (o_t rfl) (lt rfl)) (fun gs_ => .b rfl rfl (.nil)) (.s rfl (fun gs_ => .d 26 rfl rfl (.nil)) hb31) (fun _ => rfl) rfl (fun _ _ _ => rfl) (.x (f := fun gs_ => ⟨50, vPtr k_code_row, t32⟩) 0 (fun gs_ => [⟨48, vSlice k_code_row, t1⟩, ⟨49, vInt .i64, t4⟩]) rfl (fun gs_ => l_ia (o_t rfl) (o_t rfl) h33 sl108 sz113 (lt rfl)) (fun gs_ => .d 27 rfl rfl (.d 28 rfl rfl (.nil))) (.s rfl (fun gs_ => .d 26 rfl rfl (.nil)) hb31) (fun _ => rfl) rfl (fun _ _ _ => rfl) (.x (f := fun gs_ => ⟨51, vPtr (kClo Tryz.prog (fun x : code_look × aIns × code_place => [⟨(k_code_look).v, x.1⟩, ⟨(k_aIns).v, x.2.1⟩, ⟨(k_code_place).v, x.2.2⟩]) vBool), t32.fine⟩) 0 (fun gs_ => [⟨50, vPtr k_code_row, t32⟩]) rfl (fun gs_ => l_fa (o_t rfl) fl_code_row_3 fa113_3 (lt rfl)) (fun gs_ => .d 29 rfl rfl (.nil)) (.s rfl (fun gs_ => .d 26 rfl rfl (.nil)) hb31) (fun _ => rfl) rfl (fun _ _ _ => rfl) (.x (f := fun gs_ => ⟨52, vClo Tryz.prog (fun x : code_look × aIns × code_place => [⟨(k_code_look).v, x.1⟩, ⟨(k_aIns).v, x.2.1⟩, ⟨(k_code_place).v, x.2.2⟩]) vBool, t32.fine⟩) 0 (fun gs_ => [⟨51, vPtr (kClo Tryz.prog (fun x : code_look × aIns × code_place => [⟨(k_code_look).v, x.1⟩, ⟨(k_aIns).v, x.2.1⟩, ⟨(k_code_place).v, x.2.2⟩]) vBool), t32.fine⟩]) rfl (fun gs_ => l_ld (o_t rfl) ty111 (lt rfl)) (fun gs_ => .d 30 rfl rfl (.nil)) (.s rfl (fun gs_ => .d 26 rfl rfl (.nil)) hb31) (fun _ => rfl) rfl (fun _ _ _ => rfl) (.x (f := fun gs_ => ⟨53, (k_code_look).v, p0⟩) 0 (fun gs_ => [⟨4, vPtr k_code_look, p0⟩]) rfl (fun gs_ => l_ld (o_t rfl) ty51 (lt rfl)) (fun gs_ => .b rfl rfl (.nil)) (.s rfl (fun gs_ => .d 26 rfl rfl (.nil)) hb31) (fun _ => rfl) rfl (fun _ _ _ => rfl) (.x (f := fun gs_ => ⟨54, vSlice k_aIns, p1⟩) 0 (fun gs_ => [⟨5, vPtr (kSlice k_aIns), p1⟩]) rfl (fun gs_ => l_ld (o_t rfl) ty25 (lt rfl)) (fun gs_ => .b rfl rfl (.nil)) (.s rfl (fun gs_ => .d 26 rfl rfl (.nil)) hb31) (fun _ => rfl) rfl (fun _ _ _ => rfl) (.x (f := fun gs_ => ⟨55, vInt .i64, v15_1⟩) 0 (fun gs_ => [⟨10, vPtr (kInt .i64), v15_1⟩]) rfl (fun gs_ => l_ld (o_t rfl) ty3 (lt rfl)) (fun gs_ => .b rfl rfl (.nil)) (.s rfl (fun gs_ => .d 26 rfl rfl (.nil)) hb31) (fun _ => rfl) rfl (fun _ _ _ => rfl) (.x (f := fun gs_ => ⟨56, vPtr k_aIns, t34⟩) 0 (fun gs_ => [⟨54, vSlice k_aIns, p1⟩, ⟨55, vInt .i64, v15_1⟩]) rfl (fun gs_ => l_ia (o_t rfl) (o_t rfl) h35 sl25 sz75 (lt rfl)) (fun gs_ => .d 33 rfl rfl (.d 34 rfl rfl (.nil))) (.s rfl (fun gs_ => .d 26 rfl rfl (.nil)) hb31) (fun _ => rfl) rfl (fun _ _ _ => rfl) (.x (f := fun gs_ => ⟨57, (k_aIns).v, t34⟩) 0 (fun gs_ => [⟨56, vPtr k_aIns, t34⟩]) rfl (fun gs_ => l_ld (o_t rfl) ty75 (lt rfl)) (fun gs_ => .d 35 rfl rfl (.nil)) (.s rfl (fun gs_ => .d 26 rfl rfl (.nil)) hb31) (fun _ => rfl) rfl (fun _ _ _ => rfl) (.x (f := fun gs_ => ⟨58, vInt .i64, v15_1⟩) 0 (fun gs_ => [⟨10, vPtr (kInt .i64), v15_1⟩]) rfl (fun gs_ => l_ld (o_t rfl) ty3 (lt rfl)) (fun gs_ => .b rfl rfl (.nil)) (.s rfl (fun gs_ => .d 26 rfl rfl (.nil)) hb31) (fun _ => rfl) rfl (fun _ _ _ => rfl) (.x (f := fun gs_ => ⟨59, vSlice k_aIns, p1⟩) 0 (fun gs_ => [⟨5, vPtr (kSlice k_aIns), p1⟩]) rfl (fun gs_ => l_ld (o_t rfl) ty25 (lt rfl)) (fun gs_ => .b rfl rfl (.nil)) (.s rfl (fun gs_ => .d 26 rfl rfl (.nil)) hb31) (fun _ => rfl) rfl (fun _ _ _ => rfl) (.x (f := fun gs_ => ⟨60, vInt .i64, (p1.length : Int)⟩) 0 (fun gs_ => [⟨59, vSlice k_aIns, p1⟩]) rfl (fun gs_ => l_lens (o_t rfl) sl25 (lt rfl)) (fun gs_ => .d 38 rfl rfl (.nil)) (.s rfl (fun gs_ => .d 26 rfl rfl (.nil)) hb31) (fun _ => rfl) rfl (fun _ _ _ => rfl) (.x (f := fun gs_ => ⟨61, vBool, p3⟩) 0 (fun gs_ => [⟨3, vBool, p3⟩]) rfl (fun gs_ => l_move (o_t rfl) (lt rfl)) (fun gs_ => .b rfl rfl (.nil)) (.s rfl (fun gs_ => .d 26 rfl rfl (.nil)) hb31) (fun _ => rfl) rfl (fun _ _ _ => rfl) (.x (f := fun gs_ => ⟨62, (k_code_place).v, (code_place.mk v15_1 (p1.length : Int) p3)⟩) 0 (fun gs_ => [⟨58, vInt .i64, v15_1⟩, ⟨60, vInt .i64, (p1.length : Int)⟩, ⟨61, vBool, p3⟩]) rfl (fun gs_ => l_build zr117 (.cons (o_t rfl) fl_code_place_0 ft117_0 (.cons (o_t rfl) fl_code_place_1 ft117_1 (.cons (o_t rfl) fl_code_place_2 ft117_2 (.nil)))) rfl stb117 (lt rfl)) (fun gs_ => .d 37 rfl rfl (.d 39 rfl rfl (.d 40 rfl rfl (.nil)))) (.s rfl (fun gs_ => .d 26 rfl rfl (.nil)) hb31) (fun _ => rfl) rfl (fun _ _ _ => rfl) (.x (f := fun gs_ => ⟨63, vBool, t36⟩) 0 (fun gs_ => [⟨52, vClo Tryz.prog (fun x : code_look × aIns × code_place => [⟨(k_code_look).v, x.1⟩, ⟨(k_aIns).v, x.2.1⟩, ⟨(k_code_place).v, x.2.2⟩]) vBool, t32.fine⟩, ⟨53, (k_code_look).v, p0⟩, ⟨57, (k_aIns).v, t34⟩, ⟨62, (k_code_place).v, (code_place.mk v15_1 (p1.length : Int) p3)⟩]) rfl (fun gs_ => l_callc (o_t rfl) (x := (p0, t34, (code_place.mk v15_1 (p1.length : Int) p3))) (.cons (o_t rfl) (.cons (o_t rfl) (.cons (o_t rfl) (.nil)))) h37 (lt rfl)) (fun gs_ => .d 31 rfl rfl (.d 32 rfl rfl (.d 36 rfl rfl (.d 41 rfl rfl (.nil))))) (.s rfl (fun gs_ => .d 26 rfl rfl (.nil)) hb31) (fun _ => rfl) rfl (fun _ _ _ => rfl) (.x (f := fun gs_ => ⟨64, vBool, !t36⟩) 0 (fun gs_ => [⟨63, vBool, t36⟩]) rfl (fun gs_ => l_not (o_t rfl) (lt rfl)) (fun gs_ => .d 42 rfl rfl (.nil)) (.s rfl (fun gs_ => .d 26 rfl rfl (.nil)) hb31) (fun _ => rfl) rfl (fun _ _ _ => rfl) (.x (f := fun gs_ => ⟨65, vBool, !t36⟩) 0 (fun gs_ => [⟨47, vBool, !t29⟩, ⟨64, vBool, !t36⟩]) rfl (fun gs_ => l_pickf (o_t rfl) hb31 (o_t rfl) (lt rfl)) (fun gs_ => .d 26 rfl rfl (.d 43 rfl rfl (.nil))) .n (fun _ => rfl) rfl (fun _ _ _ => rfl) (.nil)))))))))))))))))))))))))))))))))))))))))))))) (fun gs_ hgs_ => ?_)
              refine k_seq ?_
              rcases bt (!t36) with hb38 | hb38
              · rw [if_neg (nt hb38)] at hl1_
                refine t_iff (o_t rfl) hb38 ?_
                refine t_skip (k_bn <| k_seq ?_)
                refine t_reg ?_
                refine st (l_bin (o_t rfl) (o_i) .add (lt rfl)) ?_
                refine st (l_move (o_t rfl) (lt rfl)) ?_
                exact r_nil (k_again (k1_, IntKind.wrap .i64 (v15_1 + (1 : Int))) hl1_ (Nat.lt_succ_self _) (Sub.cons rfl (Sub.cons rfl (Sub.cons rfl (Sub.cons rfl (Sub.cons rfl (Sub.cons rfl (Sub.cons rfl (Sub.nil _)))))))) rfl)
              · rw [if_pos hb38] at hl1_
                refine t_ift (o_t rfl) hb38 ?_
                refine t_seq ?_
                refine t_reg ?_
                refine st (l_assign (o_b) (lt rfl)) ?_
                refine r_nil (k_seq ?_)
                cases hl1_
                dsimp only [Ex.elim] at hx1_
                cases hx1_
                exact t_ret (k_br <| k_tr <| k_tr <| k_br <| k_brk_r <| k_tr <| k_ret () rfl rfl rfl rfl rfl)
            · rw [if_pos hb31] at hl1_
              refine t_draw [(0, fun gs_ => some ⟨21, vInt .i64, t4⟩), (0, fun gs_ => some ⟨22, vBool, decide (t4 < (0 : Int))⟩), (0, fun gs_ => some ⟨23, vBool, decide (t4 < (0 : Int))⟩), (0, fun gs_ => some ⟨24, vBool, p2⟩), (0, fun gs_ => some ⟨25, vBool, p2⟩), (0, fun gs_ => some ⟨26, vSlice k_code_row, t1⟩), (0, fun gs_ => some ⟨27, vInt .i64, t4⟩), (0, fun gs_ => some ⟨28, vPtr k_code_row, t22⟩), (0, fun gs_ => some ⟨29, vPtr kBool, t22.plain⟩), (0, fun gs_ => some ⟨30, vBool, t22.plain⟩), (0, fun gs_ => some ⟨31, vBool, !t22.plain⟩), (0, fun gs_ => some ⟨32, vBool, !t22.plain⟩), (0, fun gs_ => some ⟨33, vBool, !t22.plain⟩), (0, fun gs_ => some ⟨34, vBool, !t22.plain⟩), (0, fun gs_ => some ⟨35, vSlice k_aIns, p1⟩), (0, fun gs_ => some ⟨36, vInt .i64, v15_1⟩), (0, fun gs_ => some ⟨37, vPtr k_aIns, t25⟩), (0, fun gs_ => some ⟨38, (k_aIns).v, t25⟩), (0, fun gs_ => some ⟨39, vSlice k_code_row, t1⟩), (0, fun gs_ => some ⟨40, vInt .i64, t4⟩), (0, fun gs_ => some ⟨41, vPtr k_code_row, t27⟩), (0, fun gs_ => some ⟨42, vPtr kStr, t27.has⟩), (0, fun gs_ => some ⟨43, vStr, t27.has⟩), (0, fun gs_ => some ⟨44, vBool, t29⟩), (0, fun gs_ => some ⟨45, vBool, !t29⟩), (0, fun gs_ => some ⟨46, vBool, !t29⟩), (0, fun gs_ => some ⟨47, vBool, !t29⟩), (0, fun _ => some ⟨48, vUnd, ()⟩), (0, fun _ => some ⟨49, vUnd, ()⟩), (0, fun _ => some ⟨50, vUnd, ()⟩), (0, fun _ => some ⟨51, vUnd, ()⟩), (0, fun _ => some ⟨52, vUnd, ()⟩), (0, fun _ => some ⟨53, vUnd, ()⟩), (0, fun _ => some ⟨54, vUnd, ()⟩), (0, fun _ => some ⟨55, vUnd, ()⟩), (0, fun _ => some ⟨56, vUnd, ()⟩), (0, fun _ => some ⟨57, vUnd, ()⟩), (0, fun _ => some ⟨58, vUnd, ()⟩), (0, fun _ => some ⟨59, vUnd, ()⟩), (0, fun _ => some ⟨60, vUnd, ()⟩), (0, fun _ => some ⟨61, vUnd, ()⟩), (0, fun _ => some ⟨62, vUnd, ()⟩), (0, fun _ => some ⟨63, vUnd, ()⟩), (0, fun _ => some ⟨64, vUnd, ()⟩), (0, fun gs_ => some ⟨65, vBool, true⟩)] mixed rfl rfl (fun _ => []) [] rfl (.x (f := fun gs_ => ⟨21, vInt .i64, t4⟩) 0 (fun gs_ => [⟨11, vInt .i64, t4⟩]) rfl (fun gs_ => l_move (o_t rfl) (lt rfl)) (fun gs_ => .b rfl rfl (.nil)) .n (fun _ => rfl) rfl (fun _ _ _ => rfl) (.x (f := fun gs_ => ⟨22, vBool, decide (t4 < (0 : Int))⟩) 0 (fun gs_ => [⟨21, vInt .i64, t4⟩]) rfl (fun gs_ => l_cmp (o_t rfl) (o_i) .lss (lt rfl)) (fun gs_ => .d 0 rfl rfl (.nil)) .n (fun _ => rfl) rfl (fun _ _ _ => rfl) (.x (f := fun gs_ => ⟨23, vBool, decide (t4 < (0 : Int))⟩) 0 (fun gs_ => [⟨22, vBool, decide (t4 < (0 : Int))⟩]) rfl (fun gs_ => l_move (o_t rfl) (lt rfl)) (fun gs_ => .d 1 rfl rfl (.nil)) .n (fun _ => rfl) rfl (fun _ _ _ => rfl) (.x (f := fun gs_ => ⟨24, vBool, p2⟩) 0 (fun gs_ => [⟨2, vBool, p2⟩]) rfl (fun gs_ => l_move (o_t rfl) (lt rfl)) (fun gs_ => .b rfl rfl (.nil)) (.s rfl (fun gs_ => .d 2 rfl rfl (.nil)) hb6) (fun _ => rfl) rfl (fun _ _ _ => rfl) (.x (f := fun gs_ => ⟨25, vBool, p2⟩) 0 (fun gs_ => [⟨24, vBool, p2⟩]) rfl (fun gs_ => l_move (o_t rfl) (lt rfl)) (fun gs_ => .d 3 rfl rfl (.nil)) (.s rfl (fun gs_ => .d 2 rfl rfl (.nil)) hb6) (fun _ => rfl) rfl (fun _ _ _ => rfl) (.x (f := fun gs_ => ⟨26, vSlice k_code_row, t1⟩) 0 (fun gs_ => [⟨9, vSlice k_code_row, t1⟩]) rfl (fun gs_ => l_move (o_t rfl) (lt rfl)) (fun gs_ => .b rfl rfl (.nil)) (.s rfl (fun gs_ => .d 4 rfl rfl (.nil)) hb7) (fun _ => rfl) rfl (fun _ _ _ => rfl) (.x (f := fun gs_ => ⟨27, vInt .i64, t4⟩) 0 (fun gs_ => [⟨11, vInt .i64, t4⟩]) rfl (fun gs_ => l_move (o_t rfl) (lt rfl)) (fun gs_ => .b rfl rfl (.nil)) (.s rfl (fun gs_ => .d 4 rfl rfl (.nil)) hb7) (fun _ => rfl) rfl (fun _ _ _ => rfl) (.x (f := fun gs_ => ⟨28, vPtr k_code_row, t22⟩) 0 (fun gs_ => [⟨26, vSlice k_code_row, t1⟩, ⟨27, vInt .i64, t4⟩]) rfl (fun gs_ => l_ia (o_t rfl) (o_t rfl) h23 sl108 sz113 (lt rfl)) (fun gs_ => .d 5 rfl rfl (.d 6 rfl rfl (.nil))) (.s rfl (fun gs_ => .d 4 rfl rfl (.nil)) hb7) (fun _ => rfl) rfl (fun _ _ _ => rfl) (.x (f := fun gs_ => ⟨29, vPtr kBool, t22.plain⟩) 0 (fun gs_ => [⟨28, vPtr k_code_row, t22⟩]) rfl (fun gs_ => l_fa (o_t rfl) fl_code_row_2 fa113_2 (lt rfl)) (fun gs_ => .d 7 rfl rfl (.nil)) (.s rfl (fun gs_ => .d 4 rfl rfl (.nil)) hb7) (fun _ => rfl) rfl (fun _ _ _ => rfl) (.x (f := fun gs_ => ⟨30, vBool, t22.plain⟩) 0 (fun gs_ => [⟨29, vPtr kBool, t22.plain⟩]) rfl (fun gs_ => l_ld (o_t rfl) ty4 (lt rfl)) (fun gs_ => .d 8 rfl rfl (.nil)) (.s rfl (fun gs_ => .d 4 rfl rfl (.nil)) hb7) (fun _ => rfl) rfl (fun _ _ _ => rfl) (.x (f := fun gs_ => ⟨31, vBool, !t22.plain⟩) 0 (fun gs_ => [⟨30, vBool, t22.plain⟩]) rfl (fun gs_ => l_not (o_t rfl) (lt rfl)) (fun gs_ => .d 9 rfl rfl (.nil)) (.s rfl (fun gs_ => .d 4 rfl rfl (.nil)) hb7) (fun _ => rfl) rfl (fun _ _ _ => rfl) (.x (f := fun gs_ => ⟨32, vBool, !t22.plain⟩) 0 (fun gs_ => [⟨25, vBool, p2⟩, ⟨31, vBool, !t22.plain⟩]) rfl (fun gs_ => l_pickt (o_t rfl) hb7 (o_t rfl) (lt rfl)) (fun gs_ => .d 4 rfl rfl (.d 10 rfl rfl (.nil))) (.s rfl (fun gs_ => .d 2 rfl rfl (.nil)) hb6) (fun _ => rfl) rfl (fun _ _ _ => rfl) (.x (f := fun gs_ => ⟨33, vBool, !t22.plain⟩) 0 (fun gs_ => [⟨23, vBool, decide (t4 < (0 : Int))⟩, ⟨32, vBool, !t22.plain⟩]) rfl (fun gs_ => l_pickf (o_t rfl) hb6 (o_t rfl) (lt rfl)) (fun gs_ => .d 2 rfl rfl (.d 11 rfl rfl (.nil))) .n (fun _ => rfl) rfl (fun _ _ _ => rfl) (.x (f := fun gs_ => ⟨34, vBool, !t22.plain⟩) 0 (fun gs_ => [⟨33, vBool, !t22.plain⟩]) rfl (fun gs_ => l_move (o_t rfl) (lt rfl)) (fun gs_ => .d 12 rfl rfl (.nil)) .n (fun _ => rfl) rfl (fun _ _ _ => rfl) (.x (f := fun gs_ => ⟨35, vSlice k_aIns, p1⟩) 0 (fun gs_ => [⟨5, vPtr (kSlice k_aIns), p1⟩]) rfl (fun gs_ => l_ld (o_t rfl) ty25 (lt rfl)) (fun gs_ => .b rfl rfl (.nil)) (.s rfl (fun gs_ => .d 13 rfl rfl (.nil)) hb24) (fun _ => rfl) rfl (fun _ _ _ => rfl) (.x (f := fun gs_ => ⟨36, vInt .i64, v15_1⟩) 0 (fun gs_ => [⟨10, vPtr (kInt .i64), v15_1⟩]) rfl (fun gs_ => l_ld (o_t rfl) ty3 (lt rfl)) (fun gs_ => .b rfl rfl (.nil)) (.s rfl (fun gs_ => .d 13 rfl rfl (.nil)) hb24) (fun _ => rfl) rfl (fun _ _ _ => rfl) (.x (f := fun gs_ => ⟨37, vPtr k_aIns, t25⟩) 0 (fun gs_ => [⟨35, vSlice k_aIns, p1⟩, ⟨36, vInt .i64, v15_1⟩]) rfl (fun gs_ => l_ia (o_t rfl) (o_t rfl) h26 sl25 sz75 (lt rfl)) (fun gs_ => .d 14 rfl rfl (.d 15 rfl rfl (.nil))) (.s rfl (fun gs_ => .d 13 rfl rfl (.nil)) hb24) (fun _ => rfl) rfl (fun _ _ _ => rfl) (.x (f := fun gs_ => ⟨38, (k_aIns).v, t25⟩) 0 (fun gs_ => [⟨37, vPtr k_aIns, t25⟩]) rfl (fun gs_ => l_ld (o_t rfl) ty75 (lt rfl)) (fun gs_ => .d 16 rfl rfl (.nil)) (.s rfl (fun gs_ => .d 13 rfl rfl (.nil)) hb24) (fun _ => rfl) rfl (fun _ _ _ => rfl) (.x (f := fun gs_ => ⟨39, vSlice k_code_row, t1⟩) 0 (fun gs_ => [⟨9, vSlice k_code_row, t1⟩]) rfl (fun gs_ => l_move (o_t rfl) (lt rfl)) (fun gs_ => .b rfl rfl (.nil)) (.s rfl (fun gs_ => .d 13 rfl rfl (.nil)) hb24) (fun _ => rfl) rfl (fun _ _ _ => rfl) (.x (f := fun gs_ => ⟨40, vInt .i64, t4⟩) 0 (fun gs_ => [⟨11, vInt .i64, t4⟩]) rfl (fun gs_ => l_move (o_t rfl) (lt rfl)) (fun gs_ => .b rfl rfl (.nil)) (.s rfl (fun gs_ => .d 13 rfl rfl (.nil)) hb24) (fun _ => rfl) rfl (fun _ _ _ => rfl) (.x (f := fun gs_ => ⟨41, vPtr k_code_row, t27⟩) 0 (fun gs_ => [⟨39, vSlice k_code_row, t1⟩, ⟨40, vInt .i64, t4⟩]) rfl (fun gs_ => l_ia (o_t rfl) (o_t rfl) h28 sl108 sz113 (lt rfl)) (fun gs_ => .d 18 rfl rfl (.d 19 rfl rfl (.nil))) (.s rfl (fun gs_ => .d 13 rfl rfl (.nil)) hb24) (fun _ => rfl) rfl (fun _ _ _ => rfl) (.x (f := fun gs_ => ⟨42, vPtr kStr, t27.has⟩) 0 (fun gs_ => [⟨41, vPtr k_code_row, t27⟩]) rfl (fun gs_ => l_fa (o_t rfl) fl_code_row_1 fa113_1 (lt rfl)) (fun gs_ => .d 20 rfl rfl (.nil)) (.s rfl (fun gs_ => .d 13 rfl rfl (.nil)) hb24) (fun _ => rfl) rfl (fun _ _ _ => rfl) (.x (f := fun gs_ => ⟨43, vStr, t27.has⟩) 0 (fun gs_ => [⟨42, vPtr kStr, t27.has⟩]) rfl (fun gs_ => l_ld (o_t rfl) ty9 (lt rfl)) (fun gs_ => .d 21 rfl rfl (.nil)) (.s rfl (fun gs_ => .d 13 rfl rfl (.nil)) hb24) (fun _ => rfl) rfl (fun _ _ _ => rfl) (.x (f := fun gs_ => ⟨44, vBool, t29⟩) 0 (fun gs_ => [⟨38, (k_aIns).v, t25⟩, ⟨43, vStr, t27.has⟩]) rfl (fun gs_ => l_call (ok66 t25 t27.has _ h30) (.cons (o_t rfl) (.cons (o_t rfl) (.nil))) (lt rfl)) (fun gs_ => .d 17 rfl rfl (.d 22 rfl rfl (.nil))) (.s rfl (fun gs_ => .d 13 rfl rfl (.nil)) hb24) (fun _ => rfl) rfl (fun _ _ _ => rfl) (.x (f := fun gs_ => ⟨45, vBool, !t29⟩) 0 (fun gs_ => [⟨44, vBool, t29⟩]) rfl (fun gs_ => l_not (o_t rfl) (lt rfl)) (fun gs_ => .d 23 rfl rfl (.nil)) (.s rfl (fun gs_ => .d 13 rfl rfl (.nil)) hb24) (fun _ => rfl) rfl (fun _ _ _ => rfl) (.x (f := fun gs_ => ⟨46, vBool, !t29⟩) 0 (fun gs_ => [⟨34, vBool, !t22.plain⟩, ⟨45, vBool, !t29⟩]) rfl (fun gs_ => l_pickf (o_t rfl) hb24 (o_t rfl) (lt rfl)) (fun gs_ => .d 13 rfl rfl (.d 24 rfl rfl (.nil))) .n (fun _ => rfl) rfl (fun _ _ _ => rfl) (.x (f := fun gs_ => ⟨47, vBool, !t29⟩) 0 (fun gs_ => [⟨46, vBool, !t29⟩]) rfl (fun gs_ => l_move (o_t rfl) (lt rfl)) (fun gs_ => .d 25 rfl rfl (.nil)) .n (fun _ => rfl) rfl (fun _ _ _ => rfl) (.n (fun gs_ => ⟨47, vBool, !t29⟩) rfl (fun _ => rfl) (fun gs_ => .d 26 rfl rfl (.nil)) (fun _ => noy_b (b := false) hb31) (lt rfl) (.n (fun gs_ => ⟨47, vBool, !t29⟩) rfl (fun _ => rfl) (fun gs_ => .d 26 rfl rfl (.nil)) (fun _ => noy_b (b := false) hb31) (lt rfl) (.n (fun gs_ => ⟨47, vBool, !t29⟩) rfl (fun _ => rfl) (fun gs_ => .d 26 rfl rfl (.nil)) (fun _ => noy_b (b := false) hb31) (lt rfl) (.n (fun gs_ => ⟨47, vBool, !t29⟩) rfl (fun _ => rfl) (fun gs_ => .d 26 rfl rfl (.nil)) (fun _ => noy_b (b := false) hb31) (lt rfl) (.n (fun gs_ => ⟨47, vBool, !t29⟩) rfl (fun _ => rfl) (fun gs_ => .d 26 rfl rfl (.nil)) (fun _ => noy_b (b := false) hb31) (lt rfl) (.n (fun gs_ => ⟨47, vBool, !t29⟩) rfl (fun _ => rfl) (fun gs_ => .d 26 rfl rfl (.nil)) (fun _ => noy_b (b := false) hb31) (lt rfl) (.n (fun gs_ => ⟨47, vBool, !t29⟩) rfl (fun _ => rfl) (fun gs_ => .d 26 rfl rfl (.nil)) (fun _ => noy_b (b := false) hb31) (lt rfl) (.n (fun gs_ => ⟨47, vBool, !t29⟩) rfl (fun _ => rfl) (fun gs_ => .d 26 rfl rfl (.nil)) (fun _ => noy_b (b := false) hb31) (lt rfl) (.n (fun gs_ => ⟨47, vBool, !t29⟩) rfl (fun _ => rfl) (fun gs_ => .d 26 rfl rfl (.nil)) (fun _ => noy_b (b := false) hb31) (lt rfl) (.n (fun gs_ => ⟨47, vBool, !t29⟩) rfl (fun _ => rfl) (fun gs_ => .d 26 rfl rfl (.nil)) (fun _ => noy_b (b := false) hb31) (lt rfl) (.n (fun gs_ => ⟨47, vBool, !t29⟩) rfl (fun _ => rfl) (fun gs_ => .d 26 rfl rfl (.nil)) (fun _ => noy_b (b := false) hb31) (lt rfl) (.n (fun gs_ => ⟨47, vBool, !t29⟩) rfl (fun _ => rfl) (fun gs_ => .d 26 rfl rfl (.nil)) (fun _ => noy_b (b := false) hb31) (lt rfl) (.n (fun gs_ => ⟨47, vBool, !t29⟩) rfl (fun _ => rfl) (fun gs_ => .d 26 rfl rfl (.nil)) (fun _ => noy_b (b := false) hb31) (lt rfl) (.n (fun gs_ => ⟨47, vBool, !t29⟩) rfl (fun _ => rfl) (fun gs_ => .d 26 rfl rfl (.nil)) (fun _ => noy_b (b := false) hb31) (lt rfl) (.n (fun gs_ => ⟨47, vBool, !t29⟩) rfl (fun _ => rfl) (fun gs_ => .d 26 rfl rfl (.nil)) (fun _ => noy_b (b := false) hb31) (lt rfl) (.n (fun gs_ => ⟨47, vBool, !t29⟩) rfl (fun _ => rfl) (fun gs_ => .d 26 rfl rfl (.nil)) (fun _ => noy_b (b := false) hb31) (lt rfl) (.n (fun gs_ => ⟨47, vBool, !t29⟩) rfl (fun _ => rfl) (fun gs_ => .d 26 rfl rfl (.nil)) (fun _ => noy_b (b := false) hb31) (lt rfl) (.x (f := fun gs_ => ⟨65, vBool, true⟩) 0 (fun gs_ => [⟨47, vBool, !t29⟩]) rfl (fun gs_ => l_pickt (o_t rfl) hb31 (o_b) (lt rfl)) (fun gs_ => .d 26 rfl rfl (.nil)) .n (fun _ => rfl) rfl (fun _ _ _ => rfl) (.nil)))))))))))))))))))))))))))))))))))))))))))))) (fun gs_ hgs_ => ?_)
              refine k_seq ?_
              refine t_ift (o_t rfl) rfl ?_
              refine t_seq ?_
              refine t_reg ?_
              refine st (l_assign (o_b) (lt rfl)) ?_
              refine r_nil (k_seq ?_)
              cases hl1_
              dsimp only [Ex.elim] at hx1_
              cases hx1_
              exact t_ret (k_br <| k_tr <| k_tr <| k_br <| k_brk_r <| k_tr <| k_ret () rfl rfl rfl rfl rfl)
          · rw [if_pos hb24] at hl1_
            refine t_draw [(0, fun gs_ => some ⟨21, vInt .i64, t4⟩), (0, fun gs_ => some ⟨22, vBool, decide (t4 < (0 : Int))⟩), (0, fun gs_ => some ⟨23, vBool, decide (t4 < (0 : Int))⟩), (0, fun gs_ => some ⟨24, vBool, p2⟩), (0, fun gs_ => some ⟨25, vBool, p2⟩), (0, fun gs_ => some ⟨26, vSlice k_code_row, t1⟩), (0, fun gs_ => some ⟨27, vInt .i64, t4⟩), (0, fun gs_ => some ⟨28, vPtr k_code_row, t22⟩), (0, fun gs_ => some ⟨29, vPtr kBool, t22.plain⟩), (0, fun gs_ => some ⟨30, vBool, t22.plain⟩), (0, fun gs_ => some ⟨31, vBool, !t22.plain⟩), (0, fun gs_ => some ⟨32, vBool, !t22.plain⟩), (0, fun gs_ => some ⟨33, vBool, !t22.plain⟩), (0, fun gs_ => some ⟨34, vBool, !t22.plain⟩), (0, fun _ => some ⟨35, vUnd, ()⟩), (0, fun _ => some ⟨36, vUnd, ()⟩), (0, fun _ => some ⟨37, vUnd, ()⟩), (0, fun _ => some ⟨38, vUnd, ()⟩), (0, fun _ => some ⟨39, vUnd, ()⟩), (0, fun _ => some ⟨40, vUnd, ()⟩), (0, fun _ => some ⟨41, vUnd, ()⟩), (0, fun _ => some ⟨42, vUnd, ()⟩), (0, fun _ => some ⟨43, vUnd, ()⟩), (0, fun _ => some ⟨44, vUnd, ()⟩), (0, fun _ => some ⟨45, vUnd, ()⟩), (0, fun gs_ => some ⟨46, vBool, true⟩), (0, fun gs_ => some ⟨47, vBool, true⟩), (0, fun _ => some ⟨48, vUnd, ()⟩), (0, fun _ => some ⟨49, vUnd, ()⟩), (0, fun _ => some ⟨50, vUnd, ()⟩), (0, fun _ => some ⟨51, vUnd, ()⟩), (0, fun _ => some ⟨52, vUnd, ()⟩), (0, fun _ => some ⟨53, vUnd, ()⟩), (0, fun _ => some ⟨54, vUnd, ()⟩), (0, fun _ => some ⟨55, vUnd, ()⟩), (0, fun _ => some ⟨56, vUnd, ()⟩), (0, fun _ => some ⟨57, vUnd, ()⟩), (0, fun _ => some ⟨58, vUnd, ()⟩), (0, fun _ => some ⟨59, vUnd, ()⟩), (0, fun _ => some ⟨60, vUnd, ()⟩), (0, fun _ => some ⟨61, vUnd, ()⟩), (0, fun _ => some ⟨62, vUnd, ()⟩), (0, fun _ => some ⟨63, vUnd, ()⟩), (0, fun _ => some ⟨64, vUnd, ()⟩), (0, fun gs_ => some ⟨65, vBool, true⟩)] mixed rfl rfl (fun _ => []) [] rfl (.x (f := fun gs_ => ⟨21, vInt .i64, t4⟩) 0 (fun gs_ => [⟨11, vInt .i64, t4⟩]) rfl (fun gs_ => l_move (o_t rfl) (lt rfl)) (fun gs_ => .b rfl rfl (.nil)) .n (fun _ => rfl) rfl (fun _ _ _ => rfl) (.x (f := fun gs_ => ⟨22, vBool, decide (t4 < (0 : Int))⟩) 0 (fun gs_ => [⟨21, vInt .i64, t4⟩]) rfl (fun gs_ => l_cmp (o_t rfl) (o_i) .lss (lt rfl)) (fun gs_ => .d 0 rfl rfl (.nil)) .n (fun _ => rfl) rfl (fun _ _ _ => rfl) (.x (f := fun gs_ => ⟨23, vBool, decide (t4 < (0 : Int))⟩) 0 (fun gs_ => [⟨22, vBool, decide (t4 < (0 : Int))⟩]) rfl (fun gs_ => l_move (o_t rfl) (lt rfl)) (fun gs_ => .d 1 rfl rfl (.nil)) .n (fun _ => rfl) rfl (fun _ _ _ => rfl) (.x (f := fun gs_ => ⟨24, vBool, p2⟩) 0 (fun gs_ => [⟨2, vBool, p2⟩]) rfl (fun gs_ => l_move (o_t rfl) (lt rfl)) (fun gs_ => .b rfl rfl (.nil)) (.s rfl (fun gs_ => .d 2 rfl rfl (.nil)) hb6) (fun _ => rfl) rfl (fun _ _ _ => rfl) (.x (f := fun gs_ => ⟨25, vBool, p2⟩) 0 (fun gs_ => [⟨24, vBool, p2⟩]) rfl (fun gs_ => l_move (o_t rfl) (lt rfl)) (fun gs_ => .d 3 rfl rfl (.nil)) (.s rfl (fun gs_ => .d 2 rfl rfl (.nil)) hb6) (fun _ => rfl) rfl (fun _ _ _ => rfl) (.x (f := fun gs_ => ⟨26, vSlice k_code_row, t1⟩) 0 (fun gs_ => [⟨9, vSlice k_code_row, t1⟩]) rfl (fun gs_ => l_move (o_t rfl) (lt rfl)) (fun gs_ => .b rfl rfl (.nil)) (.s rfl (fun gs_ => .d 4 rfl rfl (.nil)) hb7) (fun _ => rfl) rfl (fun _ _ _ => rfl) (.x (f := fun gs_ => ⟨27, vInt .i64, t4⟩) 0 (fun gs_ => [⟨11, vInt .i64, t4⟩]) rfl (fun gs_ => l_move (o_t rfl) (lt rfl)) (fun gs_ => .b rfl rfl (.nil)) (.s rfl (fun gs_ => .d 4 rfl rfl (.nil)) hb7) (fun _ => rfl) rfl (fun _ _ _ => rfl) (.x (f := fun gs_ => ⟨28, vPtr k_code_row, t22⟩) 0 (fun gs_ => [⟨26, vSlice k_code_row, t1⟩, ⟨27, vInt .i64, t4⟩]) rfl (fun gs_ => l_ia (o_t rfl) (o_t rfl) h23 sl108 sz113 (lt rfl)) (fun gs_ => .d 5 rfl rfl (.d 6 rfl rfl (.nil))) (.s rfl (fun gs_ => .d 4 rfl rfl (.nil)) hb7) (fun _ => rfl) rfl (fun _ _ _ => rfl) (.x (f := fun gs_ => ⟨29, vPtr kBool, t22.plain⟩) 0 (fun gs_ => [⟨28, vPtr k_code_row, t22⟩]) rfl (fun gs_ => l_fa (o_t rfl) fl_code_row_2 fa113_2 (lt rfl)) (fun gs_ => .d 7 rfl rfl (.nil)) (.s rfl (fun gs_ => .d 4 rfl rfl (.nil)) hb7) (fun _ => rfl) rfl (fun _ _ _ => rfl) (.x (f := fun gs_ => ⟨30, vBool, t22.plain⟩) 0 (fun gs_ => [⟨29, vPtr kBool, t22.plain⟩]) rfl (fun gs_ => l_ld (o_t rfl) ty4 (lt rfl)) (fun gs_ => .d 8 rfl rfl (.nil)) (.s rfl (fun gs_ => .d 4 rfl rfl (.nil)) hb7) (fun _ => rfl) rfl (fun _ _ _ => rfl) (.x (f := fun gs_ => ⟨31, vBool, !t22.plain⟩) 0 (fun gs_ => [⟨30, vBool, t22.plain⟩]) rfl (fun gs_ => l_not (o_t rfl) (lt rfl)) (fun gs_ => .d 9 rfl rfl (.nil)) (.s rfl (fun gs_ => .d 4 rfl rfl (.nil)) hb7) (fun _ => rfl) rfl (fun _ _ _ => rfl) (.x (f := fun gs_ => ⟨32, vBool, !t22.plain⟩) 0 (fun gs_ => [⟨25, vBool, p2⟩, ⟨31, vBool, !t22.plain⟩]) rfl (fun gs_ => l_pickt (o_t rfl) hb7 (o_t rfl) (lt rfl)) (fun gs_ => .d 4 rfl rfl (.d 10 rfl rfl (.nil))) (.s rfl (fun gs_ => .d 2 rfl rfl (.nil)) hb6) (fun _ => rfl) rfl (fun _ _ _ => rfl) (.x (f := fun gs_ => ⟨33, vBool, !t22.plain⟩) 0 (fun gs_ => [⟨23, vBool, decide (t4 < (0 : Int))⟩, ⟨32, vBool, !t22.plain⟩]) rfl (fun gs_ => l_pickf (o_t rfl) hb6 (o_t rfl) (lt rfl)) (fun gs_ => .d 2 rfl rfl (.d 11 rfl rfl (.nil))) .n (fun _ => rfl) rfl (fun _ _ _ => rfl) (.x (f := fun gs_ => ⟨34, vBool, !t22.plain⟩) 0 (fun gs_ => [⟨33, vBool, !t22.plain⟩]) rfl (fun gs_ => l_move (o_t rfl) (lt rfl)) (fun gs_ => .d 12 rfl rfl (.nil)) .n (fun _ => rfl) rfl (fun _ _ _ => rfl) (.n (fun gs_ => ⟨34, vBool, !t22.plain⟩) rfl (fun _ => rfl) (fun gs_ => .d 13 rfl rfl (.nil)) (fun _ => noy_b (b := false) hb24) (lt rfl) (.n (fun gs_ => ⟨34, vBool, !t22.plain⟩) rfl (fun _ => rfl) (fun gs_ => .d 13 rfl rfl (.nil)) (fun _ => noy_b (b := false) hb24) (lt rfl) (.n (fun gs_ => ⟨34, vBool, !t22.plain⟩) rfl (fun _ => rfl) (fun gs_ => .d 13 rfl rfl (.nil)) (fun _ => noy_b (b := false) hb24) (lt rfl) (.n (fun gs_ => ⟨34, vBool, !t22.plain⟩) rfl (fun _ => rfl) (fun gs_ => .d 13 rfl rfl (.nil)) (fun _ => noy_b (b := false) hb24) (lt rfl) (.n (fun gs_ => ⟨34, vBool, !t22.plain⟩) rfl (fun _ => rfl) (fun gs_ => .d 13 rfl rfl (.nil)) (fun _ => noy_b (b := false) hb24) (lt rfl) (.n (fun gs_ => ⟨34, vBool, !t22.plain⟩) rfl (fun _ => rfl) (fun gs_ => .d 13 rfl rfl (.nil)) (fun _ => noy_b (b := false) hb24) (lt rfl) (.n (fun gs_ => ⟨34, vBool, !t22.plain⟩) rfl (fun _ => rfl) (fun gs_ => .d 13 rfl rfl (.nil)) (fun _ => noy_b (b := false) hb24) (lt rfl) (.n (fun gs_ => ⟨34, vBool, !t22.plain⟩) rfl (fun _ => rfl) (fun gs_ => .d 13 rfl rfl (.nil)) (fun _ => noy_b (b := false) hb24) (lt rfl) (.n (fun gs_ => ⟨34, vBool, !t22.plain⟩) rfl (fun _ => rfl) (fun gs_ => .d 13 rfl rfl (.nil)) (fun _ => noy_b (b := false) hb24) (lt rfl) (.n (fun gs_ => ⟨34, vBool, !t22.plain⟩) rfl (fun _ => rfl) (fun gs_ => .d 13 rfl rfl (.nil)) (fun _ => noy_b (b := false) hb24) (lt rfl) (.n (fun gs_ => ⟨34, vBool, !t22.plain⟩) rfl (fun _ => rfl) (fun gs_ => .d 13 rfl rfl (.nil)) (fun _ => noy_b (b := false) hb24) (lt rfl) (.x (f := fun gs_ => ⟨46, vBool, true⟩) 0 (fun gs_ => [⟨34, vBool, !t22.plain⟩]) rfl (fun gs_ => l_pickt (o_t rfl) hb24 (o_b) (lt rfl)) (fun gs_ => .d 13 rfl rfl (.nil)) .n (fun _ => rfl) rfl (fun _ _ _ => rfl) (.x (f := fun gs_ => ⟨47, vBool, true⟩) 0 (fun gs_ => [⟨46, vBool, true⟩]) rfl (fun gs_ => l_move (o_t rfl) (lt rfl)) (fun gs_ => .d 25 rfl rfl (.nil)) .n (fun _ => rfl) rfl (fun _ _ _ => rfl) (.n (fun gs_ => ⟨47, vBool, true⟩) rfl (fun _ => rfl) (fun gs_ => .d 26 rfl rfl (.nil)) (fun _ => noy_b (b := false) rfl) (lt rfl) (.n (fun gs_ => ⟨47, vBool, true⟩) rfl (fun _ => rfl) (fun gs_ => .d 26 rfl rfl (.nil)) (fun _ => noy_b (b := false) rfl) (lt rfl) (.n (fun gs_ => ⟨47, vBool, true⟩) rfl (fun _ => rfl) (fun gs_ => .d 26 rfl rfl (.nil)) (fun _ => noy_b (b := false) rfl) (lt rfl) (.n (fun gs_ => ⟨47, vBool, true⟩) rfl (fun _ => rfl) (fun gs_ => .d 26 rfl rfl (.nil)) (fun _ => noy_b (b := false) rfl) (lt rfl) (.n (fun gs_ => ⟨47, vBool, true⟩) rfl (fun _ => rfl) (fun gs_ => .d 26 rfl rfl (.nil)) (fun _ => noy_b (b := false) rfl) (lt rfl) (.n (fun gs_ => ⟨47, vBool, true⟩) rfl (fun _ => rfl) (fun gs_ => .d 26 rfl rfl (.nil)) (fun _ => noy_b (b := false) rfl) (lt rfl) (.n (fun gs_ => ⟨47, vBool, true⟩) rfl (fun _ => rfl) (fun gs_ => .d 26 rfl rfl (.nil)) (fun _ => noy_b (b := false) rfl) (lt rfl) (.n (fun gs_ => ⟨47, vBool, true⟩) rfl (fun _ => rfl) (fun gs_ => .d 26 rfl rfl (.nil)) (fun _ => noy_b (b := false) rfl) (lt rfl) (.n (fun gs_ => ⟨47, vBool, true⟩) rfl (fun _ => rfl) (fun gs_ => .d 26 rfl rfl (.nil)) (fun _ => noy_b (b := false) rfl) (lt rfl) (.n (fun gs_ => ⟨47, vBool, true⟩) rfl (fun _ => rfl) (fun gs_ => .d 26 rfl rfl (.nil)) (fun _ => noy_b (b := false) rfl) (lt rfl) (.n (fun gs_ => ⟨47, vBool, true⟩) rfl (fun _ => rfl) (fun gs_ => .d 26 rfl rfl (.nil)) (fun _ => noy_b (b := false) rfl) (lt rfl) (.n (fun gs_ => ⟨47, vBool, true⟩) rfl (fun _ => rfl) (fun gs_ => .d 26 rfl rfl (.nil)) (fun _ => noy_b (b := false) rfl) (lt rfl) (.n (fun gs_ => ⟨47, vBool, true⟩) rfl (fun _ => rfl) (fun gs_ => .d 26 rfl rfl (.nil)) (fun _ => noy_b (b := false) rfl) (lt rfl) (.n (fun gs_ => ⟨47, vBool, true⟩) rfl (fun _ => rfl) (fun gs_ => .d 26 rfl rfl (.nil)) (fun _ => noy_b (b := false) rfl) (lt rfl) (.n (fun gs_ => ⟨47, vBool, true⟩) rfl (fun _ => rfl) (fun gs_ => .d 26 rfl rfl (.nil)) (fun _ => noy_b (b := false) rfl) (lt rfl) (.n (fun gs_ => ⟨47, vBool, true⟩) rfl (fun _ => rfl) (fun gs_ => .d 26 rfl rfl (.nil)) (fun _ => noy_b (b := false) rfl) (lt rfl) (.n (fun gs_ => ⟨47, vBool, true⟩) rfl (fun _ => rfl) (fun gs_ => .d 26 rfl rfl (.nil)) (fun _ => noy_b (b := false) rfl) (lt rfl) (.x (f := fun gs_ => ⟨65, vBool, true⟩) 0 (fun gs_ => [⟨47, vBool, true⟩]) rfl (fun gs_ => l_pickt (o_t rfl) rfl (o_b) (lt rfl)) (fun gs_ => .d 26 rfl rfl (.nil)) .n (fun _ => rfl) rfl (fun _ _ _ => rfl) (.nil)))))))))))))))))))))))))))))))))))))))))))))) (fun gs_ hgs_ => ?_)
            refine k_seq ?_
            refine t_ift (o_t rfl) rfl ?_
            refine t_seq ?_
            refine t_reg ?_
            refine st (l_assign (o_b) (lt rfl)) ?_
            refine r_nil (k_seq ?_)
            cases hl1_
            dsimp only [Ex.elim] at hx1_
            cases hx1_
            exact t_ret (k_br <| k_tr <| k_tr <| k_br <| k_brk_r <| k_tr <| k_ret () rfl rfl rfl rfl rfl)
      · rw [if_pos hb6] at hl1_
        refine t_draw [(0, fun gs_ => some ⟨21, vInt .i64, t4⟩), (0, fun gs_ => some ⟨22, vBool, decide (t4 < (0 : Int))⟩), (0, fun gs_ => some ⟨23, vBool, decide (t4 < (0 : Int))⟩), (0, fun _ => some ⟨24, vUnd, ()⟩), (0, fun _ => some ⟨25, vUnd, ()⟩), (0, fun _ => some ⟨26, vUnd, ()⟩), (0, fun _ => some ⟨27, vUnd, ()⟩), (0, fun _ => some ⟨28, vUnd, ()⟩), (0, fun _ => some ⟨29, vUnd, ()⟩), (0, fun _ => some ⟨30, vUnd, ()⟩), (0, fun _ => some ⟨31, vUnd, ()⟩), (0, fun _ => some ⟨32, vUnd, ()⟩), (0, fun gs_ => some ⟨33, vBool, true⟩), (0, fun gs_ => some ⟨34, vBool, true⟩), (0, fun _ => some ⟨35, vUnd, ()⟩), (0, fun _ => some ⟨36, vUnd, ()⟩), (0, fun _ => some ⟨37, vUnd, ()⟩), (0, fun _ => some ⟨38, vUnd, ()⟩), (0, fun _ => some ⟨39, vUnd, ()⟩), (0, fun _ => some ⟨40, vUnd, ()⟩), (0, fun _ => some ⟨41, vUnd, ()⟩), (0, fun _ => some ⟨42, vUnd, ()⟩), (0, fun _ => some ⟨43, vUnd, ()⟩), (0, fun _ => some ⟨44, vUnd, ()⟩), (0, fun _ => some ⟨45, vUnd, ()⟩), (0, fun gs_ => some ⟨46, vBool, true⟩), (0, fun gs_ => some ⟨47, vBool, true⟩), (0, fun _ => some ⟨48, vUnd, ()⟩), (0, fun _ => some ⟨49, vUnd, ()⟩), (0, fun _ => some ⟨50, vUnd, ()⟩), (0, fun _ => some ⟨51, vUnd, ()⟩), (0, fun _ => some ⟨52, vUnd, ()⟩), (0, fun _ => some ⟨53, vUnd, ()⟩), (0, fun _ => some ⟨54, vUnd, ()⟩), (0, fun _ => some ⟨55, vUnd, ()⟩), (0, fun _ => some ⟨56, vUnd, ()⟩), (0, fun _ => some ⟨57, vUnd, ()⟩), (0, fun _ => some ⟨58, vUnd, ()⟩), (0, fun _ => some ⟨59, vUnd, ()⟩), (0, fun _ => some ⟨60, vUnd, ()⟩), (0, fun _ => some ⟨61, vUnd, ()⟩), (0, fun _ => some ⟨62, vUnd, ()⟩), (0, fun _ => some ⟨63, vUnd, ()⟩), (0, fun _ => some ⟨64, vUnd, ()⟩), (0, fun gs_ => some ⟨65, vBool, true⟩)] mixed rfl rfl (fun _ => []) [] rfl (.x (f := fun gs_ => ⟨21, vInt .i64, t4⟩) 0 (fun gs_ => [⟨11, vInt .i64, t4⟩]) rfl (fun gs_ => l_move (o_t rfl) (lt rfl)) (fun gs_ => .b rfl rfl (.nil)) .n (fun _ => rfl) rfl (fun _ _ _ => rfl) (.x (f := fun gs_ => ⟨22, vBool, decide (t4 < (0 : Int))⟩) 0 (fun gs_ => [⟨21, vInt .i64, t4⟩]) rfl (fun gs_ => l_cmp (o_t rfl) (o_i) .lss (lt rfl)) (fun gs_ => .d 0 rfl rfl (.nil)) .n (fun _ => rfl) rfl (fun _ _ _ => rfl) (.x (f := fun gs_ => ⟨23, vBool, decide (t4 < (0 : Int))⟩) 0 (fun gs_ => [⟨22, vBool, decide (t4 < (0 : Int))⟩]) rfl (fun gs_ => l_move (o_t rfl) (lt rfl)) (fun gs_ => .d 1 rfl rfl (.nil)) .n (fun _ => rfl) rfl (fun _ _ _ => rfl) (.n (fun gs_ => ⟨23, vBool, decide (t4 < (0 : Int))⟩) rfl (fun _ => rfl) (fun gs_ => .d 2 rfl rfl (.nil)) (fun _ => noy_b (b := false) hb6) (lt rfl) (.n (fun gs_ => ⟨23, vBool, decide (t4 < (0 : Int))⟩) rfl (fun _ => rfl) (fun gs_ => .d 2 rfl rfl (.nil)) (fun _ => noy_b (b := false) hb6) (lt rfl) (.n (fun gs_ => ⟨25, vUnd, ()⟩) rfl (fun _ => rfl) (fun gs_ => .d 4 rfl rfl (.nil)) (fun _ => noy_u) (lt rfl) (.n (fun gs_ => ⟨25, vUnd, ()⟩) rfl (fun _ => rfl) (fun gs_ => .d 4 rfl rfl (.nil)) (fun _ => noy_u) (lt rfl) (.n (fun gs_ => ⟨25, vUnd, ()⟩) rfl (fun _ => rfl) (fun gs_ => .d 4 rfl rfl (.nil)) (fun _ => noy_u) (lt rfl) (.n (fun gs_ => ⟨25, vUnd, ()⟩) rfl (fun _ => rfl) (fun gs_ => .d 4 rfl rfl (.nil)) (fun _ => noy_u) (lt rfl) (.n (fun gs_ => ⟨25, vUnd, ()⟩) rfl (fun _ => rfl) (fun gs_ => .d 4 rfl rfl (.nil)) (fun _ => noy_u) (lt rfl) (.n (fun gs_ => ⟨25, vUnd, ()⟩) rfl (fun _ => rfl) (fun gs_ => .d 4 rfl rfl (.nil)) (fun _ => noy_u) (lt rfl) (.n (fun gs_ => ⟨23, vBool, decide (t4 < (0 : Int))⟩) rfl (fun _ => rfl) (fun gs_ => .d 2 rfl rfl (.nil)) (fun _ => noy_b (b := false) hb6) (lt rfl) (.x (f := fun gs_ => ⟨33, vBool, true⟩) 0 (fun gs_ => [⟨23, vBool, decide (t4 < (0 : Int))⟩]) rfl (fun gs_ => l_pickt (o_t rfl) hb6 (o_b) (lt rfl)) (fun gs_ => .d 2 rfl rfl (.nil)) .n (fun _ => rfl) rfl (fun _ _ _ => rfl) (.x (f := fun gs_ => ⟨34, vBool, true⟩) 0 (fun gs_ => [⟨33, vBool, true⟩]) rfl (fun gs_ => l_move (o_t rfl) (lt rfl)) (fun gs_ => .d 12 rfl rfl (.nil)) .n (fun _ => rfl) rfl (fun _ _ _ => rfl) (.n (fun gs_ => ⟨34, vBool, true⟩) rfl (fun _ => rfl) (fun gs_ => .d 13 rfl rfl (.nil)) (fun _ => noy_b (b := false) rfl) (lt rfl) (.n (fun gs_ => ⟨34, vBool, true⟩) rfl (fun _ => rfl) (fun gs_ => .d 13 rfl rfl (.nil)) (fun _ => noy_b (b := false) rfl) (lt rfl) (.n (fun gs_ => ⟨34, vBool, true⟩) rfl (fun _ => rfl) (fun gs_ => .d 13 rfl rfl (.nil)) (fun _ => noy_b (b := false) rfl) (lt rfl) (.n (fun gs_ => ⟨34, vBool, true⟩) rfl (fun _ => rfl) (fun gs_ => .d 13 rfl rfl (.nil)) (fun _ => noy_b (b := false) rfl) (lt rfl) (.n (fun gs_ => ⟨34, vBool, true⟩) rfl (fun _ => rfl) (fun gs_ => .d 13 rfl rfl (.nil)) (fun _ => noy_b (b := false) rfl) (lt rfl) (.n (fun gs_ => ⟨34, vBool, true⟩) rfl (fun _ => rfl) (fun gs_ => .d 13 rfl rfl (.nil)) (fun _ => noy_b (b := false) rfl) (lt rfl) (.n (fun gs_ => ⟨34, vBool, true⟩) rfl (fun _ => rfl) (fun gs_ => .d 13 rfl rfl (.nil)) (fun _ => noy_b (b := false) rfl) (lt rfl) (.n (fun gs_ => ⟨34, vBool, true⟩) rfl (fun _ => rfl) (fun gs_ => .d 13 rfl rfl (.nil)) (fun _ => noy_b (b := false) rfl) (lt rfl) (.n (fun gs_ => ⟨34, vBool, true⟩) rfl (fun _ => rfl) (fun gs_ => .d 13 rfl rfl (.nil)) (fun _ => noy_b (b := false) rfl) (lt rfl) (.n (fun gs_ => ⟨34, vBool, true⟩) rfl (fun _ => rfl) (fun gs_ => .d 13 rfl rfl (.nil)) (fun _ => noy_b (b := false) rfl) (lt rfl) (.n (fun gs_ => ⟨34, vBool, true⟩) rfl (fun _ => rfl) (fun gs_ => .d 13 rfl rfl (.nil)) (fun _ => noy_b (b := false) rfl) (lt rfl) (.x (f := fun gs_ => ⟨46, vBool, true⟩) 0 (fun gs_ => [⟨34, vBool, true⟩]) rfl (fun gs_ => l_pickt (o_t rfl) rfl (o_b) (lt rfl)) (fun gs_ => .d 13 rfl rfl (.nil)) .n (fun _ => rfl) rfl (fun _ _ _ => rfl) (.x (f := fun gs_ => ⟨47, vBool, true⟩) 0 (fun gs_ => [⟨46, vBool, true⟩]) rfl (fun gs_ => l_move (o_t rfl) (lt rfl)) (fun gs_ => .d 25 rfl rfl (.nil)) .n (fun _ => rfl) rfl (fun _ _ _ => rfl) (.n (fun gs_ => ⟨47, vBool, true⟩) rfl (fun _ => rfl) (fun gs_ => .d 26 rfl rfl (.nil)) (fun _ => noy_b (b := false) rfl) (lt rfl) (.n (fun gs_ => ⟨47, vBool, true⟩) rfl (fun _ => rfl) (fun gs_ => .d 26 rfl rfl (.nil)) (fun _ => noy_b (b := false) rfl) (lt rfl) (.n (fun gs_ => ⟨47, vBool, true⟩) rfl (fun _ => rfl) (fun gs_ => .d 26 rfl rfl (.nil)) (fun _ => noy_b (b := false) rfl) (lt rfl) (.n (fun gs_ => ⟨47, vBool, true⟩) rfl (fun _ => rfl) (fun gs_ => .d 26 rfl rfl (.nil)) (fun _ => noy_b (b := false) rfl) (lt rfl) (.n (fun gs_ => ⟨47, vBool, true⟩) rfl (fun _ => rfl) (fun gs_ => .d 26 rfl rfl (.nil)) (fun _ => noy_b (b := false) rfl) (lt rfl) (.n (fun gs_ => ⟨47, vBool, true⟩) rfl (fun _ => rfl) (fun gs_ => .d 26 rfl rfl (.nil)) (fun _ => noy_b (b := false) rfl) (lt rfl) (.n (fun gs_ => ⟨47, vBool, true⟩) rfl (fun _ => rfl) (fun gs_ => .d 26 rfl rfl (.nil)) (fun _ => noy_b (b := false) rfl) (lt rfl) (.n (fun gs_ => ⟨47, vBool, true⟩) rfl (fun _ => rfl) (fun gs_ => .d 26 rfl rfl (.nil)) (fun _ => noy_b (b := false) rfl) (lt rfl) (.n (fun gs_ => ⟨47, vBool, true⟩) rfl (fun _ => rfl) (fun gs_ => .d 26 rfl rfl (.nil)) (fun _ => noy_b (b := false) rfl) (lt rfl) (.n (fun gs_ => ⟨47, vBool, true⟩) rfl (fun _ => rfl) (fun gs_ => .d 26 rfl rfl (.nil)) (fun _ => noy_b (b := false) rfl) (lt rfl) (.n (fun gs_ => ⟨47, vBool, true⟩) rfl (fun _ => rfl) (fun gs_ => .d 26 rfl rfl (.nil)) (fun _ => noy_b (b := false) rfl) (lt rfl) (.n (fun gs_ => ⟨47, vBool, true⟩) rfl (fun _ => rfl) (fun gs_ => .d 26 rfl rfl (.nil)) (fun _ => noy_b (b := false) rfl) (lt rfl) (.n (fun gs_ => ⟨47, vBool, true⟩) rfl (fun _ => rfl) (fun gs_ => .d 26 rfl rfl (.nil)) (fun _ => noy_b (b := false) rfl) (lt rfl) (.n (fun gs_ => ⟨47, vBool, true⟩) rfl (fun _ => rfl) (fun gs_ => .d 26 rfl rfl (.nil)) (fun _ => noy_b (b := false) rfl) (lt rfl) (.n (fun gs_ => ⟨47, vBool, true⟩) rfl (fun _ => rfl) (fun gs_ => .d 26 rfl rfl (.nil)) (fun _ => noy_b (b := false) rfl) (lt rfl) (.n (fun gs_ => ⟨47, vBool, true⟩) rfl (fun _ => rfl) (fun gs_ => .d 26 rfl rfl (.nil)) (fun _ => noy_b (b := false) rfl) (lt rfl) (.n (fun gs_ => ⟨47, vBool, true⟩) rfl (fun _ => rfl) (fun gs_ => .d 26 rfl rfl (.nil)) (fun _ => noy_b (b := false) rfl) (lt rfl) (.x (f := fun gs_ => ⟨65, vBool, true⟩) 0 (fun gs_ => [⟨47, vBool, true⟩]) rfl (fun gs_ => l_pickt (o_t rfl) rfl (o_b) (lt rfl)) (fun gs_ => .d 26 rfl rfl (.nil)) .n (fun _ => rfl) rfl (fun _ _ _ => rfl) (.nil)))))))))))))))))))))))))))))))))))))))))))))) (fun gs_ hgs_ => ?_)
        refine k_seq ?_
        refine t_ift (o_t rfl) rfl ?_
        refine t_seq ?_
        refine t_reg ?_
        refine st (l_assign (o_b) (lt rfl)) ?_
        refine r_nil (k_seq ?_)
        cases hl1_
        dsimp only [Ex.elim] at hx1_
        cases hx1_
        exact t_ret (k_br <| k_tr <| k_tr <| k_br <| k_brk_r <| k_tr <| k_ret () rfl rfl rfl rfl rfl)
  · intro s1_ hs1_
    replace hs1_ : res1_ = .go s1_ := hs1_
    subst hs1_
    dsimp only [Ex.elim] at hx1_
    have hp_ := hx1_
    clear hx1_
    show Kx _ [] [] _ _
    refine k_seq ?_
    refine t_seq ?_
    refine t_reg ?_
    refine st (l_assign (o_b) (lt rfl)) ?_
    refine r_nil (k_seq ?_)
    cases hp_
    exact t_ret (k_ret () rfl rfl rfl rfl rfl)
-- (pointsman/code.look).node$3
theorem ok56_0 (j : aJump) (p1 : Int → Option Bool) (p2 : code_look) (p3 : aNode) (y_ : Bool) (hp_ : code_look_node_3 j p1 p2 p3 = some y_) : FP Tryz.prog 56 [⟨(k_aJump).v, j⟩, ⟨vPtr (kClo Tryz.prog (fun x : Int => [⟨vInt .i64, x⟩]) vBool), p1⟩, ⟨vPtr k_code_look, p2⟩, ⟨vPtr k_aNode, p3⟩] vBool y_ := by
  unfold code_look_node_3 at hp_
  refine fc_of 43 Tryz.func56 rfl fn56 rfl (Nat.le_of_ble_eq_true rfl) fun I_ w_ F_ => ?_
  refine t_seq ?_
  refine t_reg ?_
  refine st (l_box (o_t rfl) (lt rfl)) ?_
  refine st (l_assign (o_b) (lt rfl)) ?_
  refine r_nil (k_seq ?_)
  refine t_seq ?_
  refine t_reg ?_
  refine st (l_ld (o_t rfl) ty91 (lt rfl)) ?_
  refine st (l_fa (o_t rfl) fl_aJump_2 fa99_2 (lt rfl)) ?_
  refine st (l_ld (o_t rfl) ty3 (lt rfl)) ?_
  obtain ⟨t1, h2, hp_⟩ := bs hp_
  refine st (l_callc (o_t rfl) (x := j.To) (.cons (o_t rfl) (.nil)) h2 (lt rfl)) ?_
  refine st (l_not (o_t rfl) (lt rfl)) ?_
  refine st (l_move (o_t rfl) (lt rfl)) ?_
  rcases bt (!t1) with hb3 | hb3
  · rw [if_neg (nt hb3)] at hp_
    refine g_t rfl rfl hb3 ?_
    refine st (l_fa (o_t rfl) fl_aJump_0 fa99_0 (lt rfl)) ?_
    refine g_t rfl rfl hb3 ?_
    refine st (l_ld (o_t rfl) ty72 (lt rfl)) ?_
    refine g_t rfl rfl hb3 ?_
    obtain ⟨t4, h5, hp_⟩ := bs hp_
    refine st (l_call (ok57 j.Value _ h5) (.cons (o_t rfl) (.nil)) (lt rfl)) ?_
    refine g_t rfl rfl hb3 ?_
    refine st (l_not (o_t rfl) (lt rfl)) ?_
    refine st (l_pickf (o_t rfl) hb3 (o_t rfl) (lt rfl)) ?_
    refine st (l_move (o_t rfl) (lt rfl)) ?_
    rcases bt (!t4) with hb6 | hb6
    · rw [if_neg (nt hb6)] at hp_
      refine g_t rfl rfl hb6 ?_
      refine st (l_fa (o_t rfl) fl_aJump_1 fa99_1 (lt rfl)) ?_
      refine g_t rfl rfl hb6 ?_
      refine st (l_ld (o_t rfl) ty72 (lt rfl)) ?_
      refine g_t rfl rfl hb6 ?_
      obtain ⟨t7, h8, hp_⟩ := bs hp_
      refine st (l_call (ok57 j.Mask _ h8) (.cons (o_t rfl) (.nil)) (lt rfl)) ?_
      refine g_t rfl rfl hb6 ?_
      refine st (l_not (o_t rfl) (lt rfl)) ?_
      refine st (l_pickf (o_t rfl) hb6 (o_t rfl) (lt rfl)) ?_
      refine st (l_move (o_t rfl) (lt rfl)) ?_
      rcases bt (!t7) with hb9 | hb9
      · rw [if_neg (nt hb9)] at hp_
        refine g_t rfl rfl hb9 ?_
        refine st (l_ld (o_t rfl) ty51 (lt rfl)) ?_
        refine g_t rfl rfl hb9 ?_
        refine st (l_fa (o_t rfl) fl_aNode_2 fa54_2 (lt rfl)) ?_
        refine g_t rfl rfl hb9 ?_
        refine st (l_ld (o_t rfl) ty3 (lt rfl)) ?_
        refine g_t rfl rfl hb9 ?_
        refine st (l_fa (o_t rfl) fl_aJump_0 fa99_0 (lt rfl)) ?_
        refine g_t rfl rfl hb9 ?_
        refine st (l_fa (o_t rfl) fl_aBits_0 fa72_0 (lt rfl)) ?_
        refine g_t rfl rfl hb9 ?_
        refine st (l_ld (o_t rfl) ty3 (lt rfl)) ?_
        refine g_t rfl rfl hb9 ?_
        obtain ⟨t10, h11, hp_⟩ := bs hp_
        refine st (l_call (ok45 p2 p3.Slot j.Value.W _ h11) (.cons (o_t rfl) (.cons (o_t rfl) (.cons (o_t rfl) (.nil)))) (lt rfl)) ?_
        refine g_t rfl rfl hb9 ?_
        refine st (l_not (o_t rfl) (lt rfl)) ?_
        refine st (l_pickf (o_t rfl) hb9 (o_t rfl) (lt rfl)) ?_
        refine st (l_move (o_t rfl) (lt rfl)) ?_
        rcases bt (!t10) with hb12 | hb12
        · rw [if_neg (nt hb12)] at hp_
          refine g_t rfl rfl hb12 ?_
          refine st (l_ld (o_t rfl) ty51 (lt rfl)) ?_
          refine g_t rfl rfl hb12 ?_
          refine st (l_fa (o_t rfl) fl_aNode_2 fa54_2 (lt rfl)) ?_
          refine g_t rfl rfl hb12 ?_
          refine st (l_ld (o_t rfl) ty3 (lt rfl)) ?_
          refine g_t rfl rfl hb12 ?_
          refine st (l_fa (o_t rfl) fl_aJump_1 fa99_1 (lt rfl)) ?_
          refine g_t rfl rfl hb12 ?_
          refine st (l_fa (o_t rfl) fl_aBits_0 fa72_0 (lt rfl)) ?_
          refine g_t rfl rfl hb12 ?_
          refine st (l_ld (o_t rfl) ty3 (lt rfl)) ?_
          refine g_t rfl rfl hb12 ?_
          obtain ⟨t13, h14, hp_⟩ := bs hp_
          refine st (l_call (ok45 p2 p3.Slot j.Mask.W _ h14) (.cons (o_t rfl) (.cons (o_t rfl) (.cons (o_t rfl) (.nil)))) (lt rfl)) ?_
          refine g_t rfl rfl hb12 ?_
          refine st (l_not (o_t rfl) (lt rfl)) ?_
          refine st (l_pickf (o_t rfl) hb12 (o_t rfl) (lt rfl)) ?_
          refine st (l_assign (o_t rfl) (lt rfl)) ?_
          refine r_nil (k_seq ?_)
          cases hp_
          exact t_ret (k_ret () rfl rfl rfl rfl rfl)
        · rw [if_pos hb12] at hp_
          refine g_n ⟨33, vBool, !t10⟩ rfl rfl (noy_b (b := false) hb12) (lt rfl) ?_
          refine g_n ⟨33, vBool, !t10⟩ rfl rfl (noy_b (b := false) hb12) (lt rfl) ?_
          refine g_n ⟨33, vBool, !t10⟩ rfl rfl (noy_b (b := false) hb12) (lt rfl) ?_
          refine g_n ⟨33, vBool, !t10⟩ rfl rfl (noy_b (b := false) hb12) (lt rfl) ?_
          refine g_n ⟨33, vBool, !t10⟩ rfl rfl (noy_b (b := false) hb12) (lt rfl) ?_
          refine g_n ⟨33, vBool, !t10⟩ rfl rfl (noy_b (b := false) hb12) (lt rfl) ?_
          refine g_n ⟨33, vBool, !t10⟩ rfl rfl (noy_b (b := false) hb12) (lt rfl) ?_
          refine g_n ⟨33, vBool, !t10⟩ rfl rfl (noy_b (b := false) hb12) (lt rfl) ?_
          refine st (l_pickt (o_t rfl) hb12 (o_b) (lt rfl)) ?_
          refine st (l_assign (o_t rfl) (lt rfl)) ?_
          refine r_nil (k_seq ?_)
          cases hp_
          exact t_ret (k_ret () rfl rfl rfl rfl rfl)
      · rw [if_pos hb9] at hp_
        refine g_n ⟨23, vBool, !t7⟩ rfl rfl (noy_b (b := false) hb9) (lt rfl) ?_
        refine g_n ⟨23, vBool, !t7⟩ rfl rfl (noy_b (b := false) hb9) (lt rfl) ?_
        refine g_n ⟨23, vBool, !t7⟩ rfl rfl (noy_b (b := false) hb9) (lt rfl) ?_
        refine g_n ⟨23, vBool, !t7⟩ rfl rfl (noy_b (b := false) hb9) (lt rfl) ?_
        refine g_n ⟨23, vBool, !t7⟩ rfl rfl (noy_b (b := false) hb9) (lt rfl) ?_
        refine g_n ⟨23, vBool, !t7⟩ rfl rfl (noy_b (b := false) hb9) (lt rfl) ?_
        refine g_n ⟨23, vBool, !t7⟩ rfl rfl (noy_b (b := false) hb9) (lt rfl) ?_
        refine g_n ⟨23, vBool, !t7⟩ rfl rfl (noy_b (b := false) hb9) (lt rfl) ?_
        refine st (l_pickt (o_t rfl) hb9 (o_b) (lt rfl)) ?_
        refine st (l_move (o_t rfl) (lt rfl)) ?_
        refine g_n ⟨33, vBool, true⟩ rfl rfl (noy_b (b := false) rfl) (lt rfl) ?_
        refine g_n ⟨33, vBool, true⟩ rfl rfl (noy_b (b := false) rfl) (lt rfl) ?_
        refine g_n ⟨33, vBool, true⟩ rfl rfl (noy_b (b := false) rfl) (lt rfl) ?_
        refine g_n ⟨33, vBool, true⟩ rfl rfl (noy_b (b := false) rfl) (lt rfl) ?_
        refine g_n ⟨33, vBool, true⟩ rfl rfl (noy_b (b := false) rfl) (lt rfl) ?_
        refine g_n ⟨33, vBool, true⟩ rfl rfl (noy_b (b := false) rfl) (lt rfl) ?_
        refine g_n ⟨33, vBool, true⟩ rfl rfl (noy_b (b := false) rfl) (lt rfl) ?_
        refine g_n ⟨33, vBool, true⟩ rfl rfl (noy_b (b := false) rfl) (lt rfl) ?_
        refine st (l_pickt (o_t rfl) rfl (o_b) (lt rfl)) ?_
        refine st (l_assign (o_t rfl) (lt rfl)) ?_
        refine r_nil (k_seq ?_)
        cases hp_
        exact t_ret (k_ret () rfl rfl rfl rfl rfl)
    · rw [if_pos hb6] at hp_
      refine g_n ⟨17, vBool, !t4⟩ rfl rfl (noy_b (b := false) hb6) (lt rfl) ?_
      refine g_n ⟨17, vBool, !t4⟩ rfl rfl (noy_b (b := false) hb6) (lt rfl) ?_
      refine g_n ⟨17, vBool, !t4⟩ rfl rfl (noy_b (b := false) hb6) (lt rfl) ?_
      refine g_n ⟨17, vBool, !t4⟩ rfl rfl (noy_b (b := false) hb6) (lt rfl) ?_
      refine st (l_pickt (o_t rfl) hb6 (o_b) (lt rfl)) ?_
      refine st (l_move (o_t rfl) (lt rfl)) ?_
      refine g_n ⟨23, vBool, true⟩ rfl rfl (noy_b (b := false) rfl) (lt rfl) ?_
      refine g_n ⟨23, vBool, true⟩ rfl rfl (noy_b (b := false) rfl) (lt rfl) ?_
      refine g_n ⟨23, vBool, true⟩ rfl rfl (noy_b (b := false) rfl) (lt rfl) ?_
      refine g_n ⟨23, vBool, true⟩ rfl rfl (noy_b (b := false) rfl) (lt rfl) ?_
      refine g_n ⟨23, vBool, true⟩ rfl rfl (noy_b (b := false) rfl) (lt rfl) ?_
      refine g_n ⟨23, vBool, true⟩ rfl rfl (noy_b (b := false) rfl) (lt rfl) ?_
      refine g_n ⟨23, vBool, true⟩ rfl rfl (noy_b (b := false) rfl) (lt rfl) ?_
      refine g_n ⟨23, vBool, true⟩ rfl rfl (noy_b (b := false) rfl) (lt rfl) ?_
      refine st (l_pickt (o_t rfl) rfl (o_b) (lt rfl)) ?_
      refine st (l_move (o_t rfl) (lt rfl)) ?_
      refine g_n ⟨33, vBool, true⟩ rfl rfl (noy_b (b := false) rfl) (lt rfl) ?_
      refine g_n ⟨33, vBool, true⟩ rfl rfl (noy_b (b := false) rfl) (lt rfl) ?_
      refine g_n ⟨33, vBool, true⟩ rfl rfl (noy_b (b := false) rfl) (lt rfl) ?_
      refine g_n ⟨33, vBool, true⟩ rfl rfl (noy_b (b := false) rfl) (lt rfl) ?_
      refine g_n ⟨33, vBool, true⟩ rfl rfl (noy_b (b := false) rfl) (lt rfl) ?_
      refine g_n ⟨33, vBool, true⟩ rfl rfl (noy_b (b := false) rfl) (lt rfl) ?_
      refine g_n ⟨33, vBool, true⟩ rfl rfl (noy_b (b := false) rfl) (lt rfl) ?_
      refine g_n ⟨33, vBool, true⟩ rfl rfl (noy_b (b := false) rfl) (lt rfl) ?_
      refine st (l_pickt (o_t rfl) rfl (o_b) (lt rfl)) ?_
      refine st (l_assign (o_t rfl) (lt rfl)) ?_
      refine r_nil (k_seq ?_)
      cases hp_
      exact t_ret (k_ret () rfl rfl rfl rfl rfl)
  · rw [if_pos hb3] at hp_
    refine g_n ⟨11, vBool, !t1⟩ rfl rfl (noy_b (b := false) hb3) (lt rfl) ?_
    refine g_n ⟨11, vBool, !t1⟩ rfl rfl (noy_b (b := false) hb3) (lt rfl) ?_
    refine g_n ⟨11, vBool, !t1⟩ rfl rfl (noy_b (b := false) hb3) (lt rfl) ?_
    refine g_n ⟨11, vBool, !t1⟩ rfl rfl (noy_b (b := false) hb3) (lt rfl) ?_
    refine st (l_pickt (o_t rfl) hb3 (o_b) (lt rfl)) ?_
    refine st (l_move (o_t rfl) (lt rfl)) ?_
    refine g_n ⟨17, vBool, true⟩ rfl rfl (noy_b (b := false) rfl) (lt rfl) ?_
    refine g_n ⟨17, vBool, true⟩ rfl rfl (noy_b (b := false) rfl) (lt rfl) ?_
    refine g_n ⟨17, vBool, true⟩ rfl rfl (noy_b (b := false) rfl) (lt rfl) ?_
    refine g_n ⟨17, vBool, true⟩ rfl rfl (noy_b (b := false) rfl) (lt rfl) ?_
    refine st (l_pickt (o_t rfl) rfl (o_b) (lt rfl)) ?_
    refine st (l_move (o_t rfl) (lt rfl)) ?_
    refine g_n ⟨23, vBool, true⟩ rfl rfl (noy_b (b := false) rfl) (lt rfl) ?_
    refine g_n ⟨23, vBool, true⟩ rfl rfl (noy_b (b := false) rfl) (lt rfl) ?_
    refine g_n ⟨23, vBool, true⟩ rfl rfl (noy_b (b := false) rfl) (lt rfl) ?_
    refine g_n ⟨23, vBool, true⟩ rfl rfl (noy_b (b := false) rfl) (lt rfl) ?_
    refine g_n ⟨23, vBool, true⟩ rfl rfl (noy_b (b := false) rfl) (lt rfl) ?_
    refine g_n ⟨23, vBool, true⟩ rfl rfl (noy_b (b := false) rfl) (lt rfl) ?_
    refine g_n ⟨23, vBool, true⟩ rfl rfl (noy_b (b := false) rfl) (lt rfl) ?_
    refine g_n ⟨23, vBool, true⟩ rfl rfl (noy_b (b := false) rfl) (lt rfl) ?_
    refine st (l_pickt (o_t rfl) rfl (o_b) (lt rfl)) ?_
    refine st (l_move (o_t rfl) (lt rfl)) ?_
    refine g_n ⟨33, vBool, true⟩ rfl rfl (noy_b (b := false) rfl) (lt rfl) ?_
    refine g_n ⟨33, vBool, true⟩ rfl rfl (noy_b (b := false) rfl) (lt rfl) ?_
    refine g_n ⟨33, vBool, true⟩ rfl rfl (noy_b (b := false) rfl) (lt rfl) ?_
    refine g_n ⟨33, vBool, true⟩ rfl rfl (noy_b (b := false) rfl) (lt rfl) ?_
    refine g_n ⟨33, vBool, true⟩ rfl rfl (noy_b (b := false) rfl) (lt rfl) ?_
    refine g_n ⟨33, vBool, true⟩ rfl rfl (noy_b (b := false) rfl) (lt rfl) ?_
    refine g_n ⟨33, vBool, true⟩ rfl rfl (noy_b (b := false) rfl) (lt rfl) ?_
    refine g_n ⟨33, vBool, true⟩ rfl rfl (noy_b (b := false) rfl) (lt rfl) ?_
    refine st (l_pickt (o_t rfl) rfl (o_b) (lt rfl)) ?_
    refine st (l_assign (o_t rfl) (lt rfl)) ?_
    refine r_nil (k_seq ?_)
    cases hp_
    exact t_ret (k_ret () rfl rfl rfl rfl rfl)
-- slices.IndexFunc[[]pointsman/api.Jump,pointsman/api.Jump]
theorem ok77 (s : List aJump) (f : aJump → Option Bool) (y_ : Int) (hp_ : slices_IndexFunc_49 s f = some y_) : FP Tryz.prog 77 [⟨vSlice k_aJump, s⟩, ⟨vClo Tryz.prog (fun x : aJump => [⟨(k_aJump).v, x⟩]) vBool, f⟩] (vInt .i64) y_ := by
  unfold slices_IndexFunc_49 at hp_
  refine fc_of 19 Tryz.func77 rfl fn77 rfl (Nat.le_of_ble_eq_true rfl) fun I_ w_ F_ => ?_
  refine t_seq ?_
  refine t_reg ?_
  refine st (l_assign (o_i) (lt rfl)) ?_
  refine r_nil (k_seq ?_)
  refine t_seq ?_
  refine t_seq ?_
  refine t_reg ?_
  refine st (l_move (o_t rfl) (lt rfl)) ?_
  refine st (l_lens (o_t rfl) sl52 (lt rfl)) ?_
  refine st (l_move (o_i) (lt rfl)) ?_
  refine r_nil (k_seq ?_)
  obtain ⟨res1_, hl1_0, hx1_⟩ := bs hp_
  clear hp_
  refine t_sub (Γ' := [⟨8, vInt .i64, (0 : Int)⟩, ⟨0, vSlice k_aJump, s⟩, ⟨1, vClo Tryz.prog (fun x : aJump => [⟨(k_aJump).v, x⟩]) vBool, f⟩, ⟨7, vInt .i64, (s.length : Int)⟩]) (Sub.cons rfl (Sub.cons rfl (Sub.cons rfl (Sub.cons rfl (Sub.nil _))))) ?_
  refine t_bloop (β := Nat × Int) (σ := Unit) (fun x_ => [⟨8, vInt .i64, x_.2⟩, ⟨0, vSlice k_aJump, s⟩, ⟨1, vClo Tryz.prog (fun x : aJump => [⟨(k_aJump).v, x⟩]) vBool, f⟩, ⟨7, vInt .i64, (s.length : Int)⟩]) (fun x_ => []) (fun x_ => slices_IndexFunc_49.l1 x_.1 s f x_.2 = some res1_) (fun x_ => x_.1) (fun x_ => []) (fun x_ => []) (fun x_ => res1_ = .go x_) ?_ ?_ ((((s.length : Int) - (0 : Int)).toNat + 1), (0 : Int)) hl1_0
  · rintro ⟨k1_, v8_1⟩ hl1_
    rcases k1_ with _ | k1_
    · exact absurd (show none = some res1_ from hl1_) (by simp)
    replace hl1_ : slices_IndexFunc_49.l1 (k1_ + 1) s f v8_1 = some res1_ := hl1_
    rw [slices_IndexFunc_49.l1.eq_2] at hl1_
    show Tr Tryz.prog _ [⟨8, vInt .i64, v8_1⟩, ⟨0, vSlice k_aJump, s⟩, ⟨1, vClo Tryz.prog (fun x : aJump => [⟨(k_aJump).v, x⟩]) vBool, f⟩, ⟨7, vInt .i64, (s.length : Int)⟩] [] _ _
    refine t_seq ?_
    refine t_reg ?_
    refine st (l_cmp (o_t rfl) (o_t rfl) .lss (lt rfl)) ?_
    refine r_nil (k_seq ?_)
    refine t_seq ?_
    rcases bt (decide (v8_1 < (s.length : Int))) with hb1 | hb1
    · rw [if_neg (nt hb1)] at hl1_
      refine t_iff (o_t rfl) hb1 ?_
      exact t_exit (k_te <| k_te <| k_be <| k_brk () (Option.some.inj hl1_).symm (Sub.nil _) rfl)
    · rw [if_pos hb1] at hl1_
      refine t_ift (o_t rfl) hb1 ?_
      refine t_skip (k_seq ?_)
      refine t_seq ?_
      refine t_blk ?_
      refine t_seq ?_
      refine t_reg ?_
      refine st (l_move (o_t rfl) (lt rfl)) ?_
      refine st (l_assign (o_t rfl) (lt rfl)) ?_
      refine r_nil (k_seq ?_)
      refine t_seq ?_
      refine t_reg ?_
      refine st (l_move (o_t rfl) (lt rfl)) ?_
      refine st (l_move (o_t rfl) (lt rfl)) ?_
      refine st (l_move (o_t rfl) (lt rfl)) ?_
      obtain ⟨t2, h3, hl1_⟩ := bs hl1_
      refine st (l_ia (o_t rfl) (o_t rfl) h3 sl52 sz99 (lt rfl)) ?_
      refine st (l_ld (o_t rfl) ty99 (lt rfl)) ?_
      obtain ⟨t4, h5, hl1_⟩ := bs hl1_
      refine st (l_callc (o_t rfl) (x := t2) (.cons (o_t rfl) (.nil)) h5 (lt rfl)) ?_
      refine r_nil (k_seq ?_)
      rcases bt (t4) with hb6 | hb6
      · rw [if_neg (nt hb6)] at hl1_
        refine t_iff (o_t rfl) hb6 ?_
        refine t_skip (k_bn <| k_seq ?_)
        refine t_reg ?_
        refine st (l_bin (o_t rfl) (o_i) .add (lt rfl)) ?_
        refine st (l_move (o_t rfl) (lt rfl)) ?_
        exact r_nil (k_again (k1_, IntKind.wrap .i64 (v8_1 + (1 : Int))) hl1_ (Nat.lt_succ_self _) (Sub.cons rfl (Sub.cons rfl (Sub.cons rfl (Sub.cons rfl (Sub.nil _))))) rfl)
      · rw [if_pos hb6] at hl1_
        refine t_ift (o_t rfl) hb6 ?_
        refine t_seq ?_
        refine t_reg ?_
        refine st (l_move (o_t rfl) (lt rfl)) ?_
        refine st (l_assign (o_t rfl) (lt rfl)) ?_
        refine r_nil (k_seq ?_)
        cases hl1_
        dsimp only [Ex.elim] at hx1_
        cases hx1_
        exact t_ret (k_br <| k_tr <| k_tr <| k_br <| k_brk_r <| k_tr <| k_ret () rfl rfl rfl rfl rfl)
  · intro s1_ hs1_
    replace hs1_ : res1_ = .go s1_ := hs1_
    subst hs1_
    dsimp only [Ex.elim] at hx1_
    have hp_ := hx1_
    clear hx1_
    show Kx _ [] [] _ _
    refine k_seq ?_
    refine t_seq ?_
    refine t_reg ?_
    refine st (l_assign (o_i) (lt rfl)) ?_
    refine r_nil (k_seq ?_)
    cases hp_
    exact t_ret (k_ret () rfl rfl rfl rfl rfl)
-- slices.ContainsFunc[[]pointsman/api.Jump,pointsman/api.Jump]
theorem ok55 (s : List aJump) (f : aJump → Option Bool) (y_ : Bool) (hp_ : slices_ContainsFunc_17 s f = some y_) : FP Tryz.prog 55 [⟨vSlice k_aJump, s⟩, ⟨vClo Tryz.prog (fun x : aJump => [⟨(k_aJump).v, x⟩]) vBool, f⟩] vBool y_ := by
  unfold slices_ContainsFunc_17 at hp_
  refine fc_of 9 Tryz.func55 rfl fn55 rfl (Nat.le_of_ble_eq_true rfl) fun I_ w_ F_ => ?_
  refine t_seq ?_
  refine t_reg ?_
  refine st (l_assign (o_b) (lt rfl)) ?_
  refine r_nil (k_seq ?_)
  refine t_seq ?_
  refine t_reg ?_
  refine st (l_move (o_t rfl) (lt rfl)) ?_
  refine st (l_move (o_t rfl) (lt rfl)) ?_
  obtain ⟨t1, h2, hp_⟩ := bs hp_
  refine st (l_call (ok77 s f _ h2) (.cons (o_t rfl) (.cons (o_t rfl) (.nil))) (lt rfl)) ?_
  refine st (l_cmp (o_t rfl) (o_i) .geq (lt rfl)) ?_
  refine st (l_assign (o_t rfl) (lt rfl)) ?_
  refine r_nil (k_seq ?_)
  cases hp_
  exact t_ret (k_ret () rfl rfl rfl rfl rfl)
-- (pointsman/code.look).node
theorem ok22 (l : code_look) (n : aNode) (y_ : Bool) (hp_ : code_look_node l n = some y_) : FP Tryz.prog 22 [⟨(k_code_look).v, l⟩, ⟨(k_aNode).v, n⟩] vBool y_ := by
  unfold code_look_node at hp_
  refine fc_of 51 Tryz.func22 rfl fn22 rfl (Nat.le_of_ble_eq_true rfl) fun I_ w_ F_ => ?_
  refine t_seq ?_
  refine t_reg ?_
  refine st (l_box (o_t rfl) (lt rfl)) ?_
  refine st (l_box (o_t rfl) (lt rfl)) ?_
  refine st (l_assign (o_b) (lt rfl)) ?_
  refine r_nil (k_seq ?_)
  refine t_seq ?_
  refine t_reg ?_
  refine st (l_mkf (.nil) (.cons (o_t rfl) (.nil)) (lt rfl)) ?_
  refine r_als zr91 (o_clo (o_t rfl) fn51 (fun x_ y h => ok51_0 x_ l _ h)) rfl sz91 (lt rfl) ?_
  refine r_nil (k_seq ?_)
  refine t_seq ?_
  refine t_seq ?_
  refine t_reg ?_
  refine st (l_fa (o_t rfl) fl_aNode_0 fa54_0 (lt rfl)) ?_
  refine st (l_ld (o_t rfl) ty22 (lt rfl)) ?_
  refine st (l_mkf (.nil) (.cons (o_t rfl) (.nil)) (lt rfl)) ?_
  obtain ⟨t1, h2, hp_⟩ := bs hp_
  refine st (l_call (ok42 n.Heads (fun x_ : Int => code_look_node_2 x_ l) _ h2) (.cons (o_t rfl) (.cons (o_clo (o_t rfl) fn52 (fun x_ y h => ok52_0 x_ l _ h)) (.nil))) (lt rfl)) ?_
  refine st (l_move (o_t rfl) (lt rfl)) ?_
  rcases bt (t1) with hb3 | hb3
  · rw [if_neg (nt hb3)] at hp_
    refine g_t rfl rfl hb3 ?_
    refine st (l_ld (o_t rfl) ty51 (lt rfl)) ?_
    refine g_t rfl rfl hb3 ?_
    refine st (l_fa (o_t rfl) fl_aNode_1 fa54_1 (lt rfl)) ?_
    refine g_t rfl rfl hb3 ?_
    refine st (l_ld (o_t rfl) ty25 (lt rfl)) ?_
    refine g_t rfl rfl hb3 ?_
    obtain ⟨t4, h5, hp_⟩ := bs hp_
    refine st (l_call (ok28 l n.Code true false _ h5) (.cons (o_t rfl) (.cons (o_t rfl) (.cons (o_b) (.cons (o_b) (.nil))))) (lt rfl)) ?_
    refine g_t rfl rfl hb3 ?_
    refine st (l_not (o_t rfl) (lt rfl)) ?_
    refine st (l_pickf (o_t rfl) hb3 (o_t rfl) (lt rfl)) ?_
    refine st (l_move (o_t rfl) (lt rfl)) ?_
    rcases bt (!t4) with hb6 | hb6
    · rw [if_neg (nt hb6)] at hp_
      refine g_t rfl rfl hb6 ?_
      refine st (l_ld (o_t rfl) ty91 (lt rfl)) ?_
      refine g_t rfl rfl hb6 ?_
      refine st (l_fa (o_t rfl) fl_aNode_4 fa54_4 (lt rfl)) ?_
      refine g_t rfl rfl hb6 ?_
      refine st (l_ld (o_t rfl) ty3 (lt rfl)) ?_
      refine g_t rfl rfl hb6 ?_
      obtain ⟨t7, h8, hp_⟩ := bs hp_
      refine st (l_callc (o_t rfl) (x := n.To) (.cons (o_t rfl) (.nil)) h8 (lt rfl)) ?_
      refine g_t rfl rfl hb6 ?_
      refine st (l_not (o_t rfl) (lt rfl)) ?_
      refine st (l_pickf (o_t rfl) hb6 (o_t rfl) (lt rfl)) ?_
      refine r_nil (k_seq ?_)
      rcases bt (!t7) with hb9 | hb9
      · rw [if_neg (nt hb9)] at hp_
        refine t_iff (o_t rfl) hb9 ?_
        refine t_skip (k_seq ?_)
        refine t_seq ?_
        refine t_seq ?_
        refine t_reg ?_
        refine st (l_fa (o_t rfl) fl_aNode_2 fa54_2 (lt rfl)) ?_
        refine st (l_ld (o_t rfl) ty3 (lt rfl)) ?_
        refine st (l_cmp (o_t rfl) (o_i) .neq (lt rfl)) ?_
        refine st (l_move (o_t rfl) (lt rfl)) ?_
        rcases bt (n.Slot != (-1 : Int)) with hb10 | hb10
        · rw [if_neg (nt hb10)] at hp_
          refine g_n ⟨28, vBool, n.Slot != (-1 : Int)⟩ rfl rfl (noy_b (b := true) hb10) (lt rfl) ?_
          refine g_n ⟨28, vBool, n.Slot != (-1 : Int)⟩ rfl rfl (noy_b (b := true) hb10) (lt rfl) ?_
          refine g_n ⟨28, vBool, n.Slot != (-1 : Int)⟩ rfl rfl (noy_b (b := true) hb10) (lt rfl) ?_
          refine g_n ⟨28, vBool, n.Slot != (-1 : Int)⟩ rfl rfl (noy_b (b := true) hb10) (lt rfl) ?_
          refine g_n ⟨28, vBool, n.Slot != (-1 : Int)⟩ rfl rfl (noy_b (b := true) hb10) (lt rfl) ?_
          refine st (l_pickf (o_t rfl) hb10 (o_b) (lt rfl)) ?_
          refine st (l_move (o_t rfl) (lt rfl)) ?_
          refine g_t rfl rfl rfl ?_
          refine st (l_fa (o_t rfl) fl_aNode_2 fa54_2 (lt rfl)) ?_
          refine g_t rfl rfl rfl ?_
          refine st (l_ld (o_t rfl) ty3 (lt rfl)) ?_
          refine g_t rfl rfl rfl ?_
          refine st (l_cmp (o_t rfl) (o_i) .lss (lt rfl)) ?_
          refine g_t rfl rfl rfl ?_
          refine st (l_move (o_t rfl) (lt rfl)) ?_
          rcases bt (decide (n.Slot < (0 : Int))) with hb11 | hb11
          · rw [if_neg (nt hb11)] at hp_
            refine g_n ⟨39, vBool, decide (n.Slot < (0 : Int))⟩ rfl rfl (noy_b (b := true) hb11) (lt rfl) ?_
            refine g_n ⟨39, vBool, decide (n.Slot < (0 : Int))⟩ rfl rfl (noy_b (b := true) hb11) (lt rfl) ?_
            refine g_n ⟨39, vBool, decide (n.Slot < (0 : Int))⟩ rfl rfl (noy_b (b := true) hb11) (lt rfl) ?_
            refine g_n ⟨39, vBool, decide (n.Slot < (0 : Int))⟩ rfl rfl (noy_b (b := true) hb11) (lt rfl) ?_
            refine g_t rfl rfl rfl ?_
            refine st (l_pickf (o_t rfl) hb11 (o_b) (lt rfl)) ?_
            refine st (l_pickf (o_t rfl) rfl (o_t rfl) (lt rfl)) ?_
            refine r_nil (k_seq ?_)
            refine t_iff (o_t rfl) rfl ?_
            refine t_skip (k_seq ?_)
            refine t_seq ?_
            refine t_reg ?_
            refine st (l_fa (o_t rfl) fl_aNode_3 fa54_3 (lt rfl)) ?_
            refine st (l_ld (o_t rfl) ty52 (lt rfl)) ?_
            refine st (l_mkf (.nil) (.cons (o_t rfl) (.cons (o_t rfl) (.cons (o_t rfl) (.nil)))) (lt rfl)) ?_
            obtain ⟨t12, h13, hp_⟩ := bs hp_
            refine st (l_call (ok55 n.Cases (fun x_ : aJump => code_look_node_3 x_ (fun x_ : Int => code_look_node_1 x_ l) l n) _ h13) (.cons (o_t rfl) (.cons (o_clo (o_t rfl) fn56 (fun x_ y h => ok56_0 x_ (fun x_ : Int => code_look_node_1 x_ l) l n _ h)) (.nil))) (lt rfl)) ?_
            refine st (l_not (o_t rfl) (lt rfl)) ?_
            refine st (l_assign (o_t rfl) (lt rfl)) ?_
            refine r_nil (k_seq ?_)
            cases hp_
            exact t_ret (k_ret () rfl rfl rfl rfl rfl)
          · rw [if_pos hb11] at hp_
            refine g_t rfl rfl hb11 ?_
            refine st (l_fa (o_t rfl) fl_aNode_3 fa54_3 (lt rfl)) ?_
            refine g_t rfl rfl hb11 ?_
            refine st (l_ld (o_t rfl) ty52 (lt rfl)) ?_
            refine g_t rfl rfl hb11 ?_
            refine st (l_lens (o_t rfl) sl52 (lt rfl)) ?_
            refine g_t rfl rfl hb11 ?_
            refine st (l_cmp (o_t rfl) (o_i) .gtr (lt rfl)) ?_
            refine g_t rfl rfl rfl ?_
            refine st (l_pickt (o_t rfl) hb11 (o_t rfl) (lt rfl)) ?_
            refine st (l_pickf (o_t rfl) rfl (o_t rfl) (lt rfl)) ?_
            refine r_nil (k_seq ?_)
            rcases bt (decide ((n.Cases.length : Int) > (0 : Int))) with hb14 | hb14
            · rw [if_neg (nt hb14)] at hp_
              refine t_iff (o_t rfl) hb14 ?_
              refine t_skip (k_seq ?_)
              refine t_seq ?_
              refine t_reg ?_
              refine st (l_fa (o_t rfl) fl_aNode_3 fa54_3 (lt rfl)) ?_
              refine st (l_ld (o_t rfl) ty52 (lt rfl)) ?_
              refine st (l_mkf (.nil) (.cons (o_t rfl) (.cons (o_t rfl) (.cons (o_t rfl) (.nil)))) (lt rfl)) ?_
              obtain ⟨t15, h16, hp_⟩ := bs hp_
              refine st (l_call (ok55 n.Cases (fun x_ : aJump => code_look_node_3 x_ (fun x_ : Int => code_look_node_1 x_ l) l n) _ h16) (.cons (o_t rfl) (.cons (o_clo (o_t rfl) fn56 (fun x_ y h => ok56_0 x_ (fun x_ : Int => code_look_node_1 x_ l) l n _ h)) (.nil))) (lt rfl)) ?_
              refine st (l_not (o_t rfl) (lt rfl)) ?_
              refine st (l_assign (o_t rfl) (lt rfl)) ?_
              refine r_nil (k_seq ?_)
              cases hp_
              exact t_ret (k_ret () rfl rfl rfl rfl rfl)
            · rw [if_pos hb14] at hp_
              refine t_ift (o_t rfl) hb14 ?_
              refine t_seq ?_
              refine t_reg ?_
              refine st (l_assign (o_b) (lt rfl)) ?_
              refine r_nil (k_seq ?_)
              cases hp_
              exact t_ret (k_tr <| k_ret () rfl rfl rfl rfl rfl)
        · rw [if_pos hb10] at hp_
          refine g_t rfl rfl hb10 ?_
          refine st (l_ld (o_t rfl) ty51 (lt rfl)) ?_
          refine g_t rfl rfl hb10 ?_
          refine st (l_fa (o_t rfl) fl_aNode_2 fa54_2 (lt rfl)) ?_
          refine g_t rfl rfl hb10 ?_
          refine st (l_ld (o_t rfl) ty3 (lt rfl)) ?_
          refine g_t rfl rfl hb10 ?_
          obtain ⟨t17, h18, hp_⟩ := bs hp_
          refine st (l_call (ok54 l n.Slot _ h18) (.cons (o_t rfl) (.cons (o_t rfl) (.nil))) (lt rfl)) ?_
          refine g_t rfl rfl hb10 ?_
          refine st (l_not (o_t rfl) (lt rfl)) ?_
          refine st (l_pickt (o_t rfl) hb10 (o_t rfl) (lt rfl)) ?_
          refine st (l_move (o_t rfl) (lt rfl)) ?_
          rcases bt (!t17) with hb19 | hb19
          · rw [if_neg (nt hb19)] at hp_
            refine g_t rfl rfl hb19 ?_
            refine st (l_fa (o_t rfl) fl_aNode_2 fa54_2 (lt rfl)) ?_
            refine g_t rfl rfl hb19 ?_
            refine st (l_ld (o_t rfl) ty3 (lt rfl)) ?_
            refine g_t rfl rfl hb19 ?_
            refine st (l_cmp (o_t rfl) (o_i) .lss (lt rfl)) ?_
            refine g_t rfl rfl hb19 ?_
            refine st (l_move (o_t rfl) (lt rfl)) ?_
            rcases bt (decide (n.Slot < (0 : Int))) with hb20 | hb20
            · rw [if_neg (nt hb20)] at hp_
              refine g_n ⟨39, vBool, decide (n.Slot < (0 : Int))⟩ rfl rfl (noy_b (b := true) hb20) (lt rfl) ?_
              refine g_n ⟨39, vBool, decide (n.Slot < (0 : Int))⟩ rfl rfl (noy_b (b := true) hb20) (lt rfl) ?_
              refine g_n ⟨39, vBool, decide (n.Slot < (0 : Int))⟩ rfl rfl (noy_b (b := true) hb20) (lt rfl) ?_
              refine g_n ⟨39, vBool, decide (n.Slot < (0 : Int))⟩ rfl rfl (noy_b (b := true) hb20) (lt rfl) ?_
              refine g_t rfl rfl hb19 ?_
              refine st (l_pickf (o_t rfl) hb20 (o_b) (lt rfl)) ?_
              refine st (l_pickf (o_t rfl) hb19 (o_t rfl) (lt rfl)) ?_
              refine r_nil (k_seq ?_)
              refine t_iff (o_t rfl) rfl ?_
              refine t_skip (k_seq ?_)
              refine t_seq ?_
              refine t_reg ?_
              refine st (l_fa (o_t rfl) fl_aNode_3 fa54_3 (lt rfl)) ?_
              refine st (l_ld (o_t rfl) ty52 (lt rfl)) ?_
              refine st (l_mkf (.nil) (.cons (o_t rfl) (.cons (o_t rfl) (.cons (o_t rfl) (.nil)))) (lt rfl)) ?_
              obtain ⟨t21, h22, hp_⟩ := bs hp_
              refine st (l_call (ok55 n.Cases (fun x_ : aJump => code_look_node_3 x_ (fun x_ : Int => code_look_node_1 x_ l) l n) _ h22) (.cons (o_t rfl) (.cons (o_clo (o_t rfl) fn56 (fun x_ y h => ok56_0 x_ (fun x_ : Int => code_look_node_1 x_ l) l n _ h)) (.nil))) (lt rfl)) ?_
              refine st (l_not (o_t rfl) (lt rfl)) ?_
              refine st (l_assign (o_t rfl) (lt rfl)) ?_
              refine r_nil (k_seq ?_)
              cases hp_
              exact t_ret (k_ret () rfl rfl rfl rfl rfl)
            · rw [if_pos hb20] at hp_
              refine g_t rfl rfl hb20 ?_
              refine st (l_fa (o_t rfl) fl_aNode_3 fa54_3 (lt rfl)) ?_
              refine g_t rfl rfl hb20 ?_
              refine st (l_ld (o_t rfl) ty52 (lt rfl)) ?_
              refine g_t rfl rfl hb20 ?_
              refine st (l_lens (o_t rfl) sl52 (lt rfl)) ?_
              refine g_t rfl rfl hb20 ?_
              refine st (l_cmp (o_t rfl) (o_i) .gtr (lt rfl)) ?_
              refine g_t rfl rfl hb19 ?_
              refine st (l_pickt (o_t rfl) hb20 (o_t rfl) (lt rfl)) ?_
              refine st (l_pickf (o_t rfl) hb19 (o_t rfl) (lt rfl)) ?_
              refine r_nil (k_seq ?_)
              rcases bt (decide ((n.Cases.length : Int) > (0 : Int))) with hb23 | hb23
              · rw [if_neg (nt hb23)] at hp_
                refine t_iff (o_t rfl) hb23 ?_
                refine t_skip (k_seq ?_)
                refine t_seq ?_
                refine t_reg ?_
                refine st (l_fa (o_t rfl) fl_aNode_3 fa54_3 (lt rfl)) ?_
                refine st (l_ld (o_t rfl) ty52 (lt rfl)) ?_
                refine st (l_mkf (.nil) (.cons (o_t rfl) (.cons (o_t rfl) (.cons (o_t rfl) (.nil)))) (lt rfl)) ?_
                obtain ⟨t24, h25, hp_⟩ := bs hp_
                refine st (l_call (ok55 n.Cases (fun x_ : aJump => code_look_node_3 x_ (fun x_ : Int => code_look_node_1 x_ l) l n) _ h25) (.cons (o_t rfl) (.cons (o_clo (o_t rfl) fn56 (fun x_ y h => ok56_0 x_ (fun x_ : Int => code_look_node_1 x_ l) l n _ h)) (.nil))) (lt rfl)) ?_
                refine st (l_not (o_t rfl) (lt rfl)) ?_
                refine st (l_assign (o_t rfl) (lt rfl)) ?_
                refine r_nil (k_seq ?_)
                cases hp_
                exact t_ret (k_ret () rfl rfl rfl rfl rfl)
              · rw [if_pos hb23] at hp_
                refine t_ift (o_t rfl) hb23 ?_
                refine t_seq ?_
                refine t_reg ?_
                refine st (l_assign (o_b) (lt rfl)) ?_
                refine r_nil (k_seq ?_)
                cases hp_
                exact t_ret (k_tr <| k_ret () rfl rfl rfl rfl rfl)
          · rw [if_pos hb19] at hp_
            refine g_n ⟨35, vBool, !t17⟩ rfl rfl (noy_b (b := false) hb19) (lt rfl) ?_
            refine g_n ⟨35, vBool, !t17⟩ rfl rfl (noy_b (b := false) hb19) (lt rfl) ?_
            refine g_n ⟨35, vBool, !t17⟩ rfl rfl (noy_b (b := false) hb19) (lt rfl) ?_
            refine g_n ⟨35, vBool, !t17⟩ rfl rfl (noy_b (b := false) hb19) (lt rfl) ?_
            refine g_n ⟨39, vUnd, ()⟩ rfl rfl (noy_u) (lt rfl) ?_
            refine g_n ⟨39, vUnd, ()⟩ rfl rfl (noy_u) (lt rfl) ?_
            refine g_n ⟨39, vUnd, ()⟩ rfl rfl (noy_u) (lt rfl) ?_
            refine g_n ⟨39, vUnd, ()⟩ rfl rfl (noy_u) (lt rfl) ?_
            refine g_n ⟨35, vBool, !t17⟩ rfl rfl (noy_b (b := false) hb19) (lt rfl) ?_
            refine st (l_pickt (o_t rfl) hb19 (o_b) (lt rfl)) ?_
            refine r_nil (k_seq ?_)
            refine t_ift (o_t rfl) rfl ?_
            refine t_seq ?_
            refine t_reg ?_
            refine st (l_assign (o_b) (lt rfl)) ?_
            refine r_nil (k_seq ?_)
            cases hp_
            exact t_ret (k_tr <| k_ret () rfl rfl rfl rfl rfl)
      · rw [if_pos hb9] at hp_
        refine t_ift (o_t rfl) hb9 ?_
        refine t_seq ?_
        refine t_reg ?_
        refine st (l_assign (o_b) (lt rfl)) ?_
        refine r_nil (k_seq ?_)
        cases hp_
        exact t_ret (k_tr <| k_ret () rfl rfl rfl rfl rfl)
    · rw [if_pos hb6] at hp_
      refine g_n ⟨18, vBool, !t4⟩ rfl rfl (noy_b (b := false) hb6) (lt rfl) ?_
      refine g_n ⟨18, vBool, !t4⟩ rfl rfl (noy_b (b := false) hb6) (lt rfl) ?_
      refine g_n ⟨18, vBool, !t4⟩ rfl rfl (noy_b (b := false) hb6) (lt rfl) ?_
      refine g_n ⟨18, vBool, !t4⟩ rfl rfl (noy_b (b := false) hb6) (lt rfl) ?_
      refine g_n ⟨18, vBool, !t4⟩ rfl rfl (noy_b (b := false) hb6) (lt rfl) ?_
      refine st (l_pickt (o_t rfl) hb6 (o_b) (lt rfl)) ?_
      refine r_nil (k_seq ?_)
      refine t_ift (o_t rfl) rfl ?_
      refine t_seq ?_
      refine t_reg ?_
      refine st (l_assign (o_b) (lt rfl)) ?_
      refine r_nil (k_seq ?_)
      cases hp_
      exact t_ret (k_tr <| k_ret () rfl rfl rfl rfl rfl)
  · rw [if_pos hb3] at hp_
    refine g_n ⟨11, vBool, t1⟩ rfl rfl (noy_b (b := false) hb3) (lt rfl) ?_
    refine g_n ⟨11, vBool, t1⟩ rfl rfl (noy_b (b := false) hb3) (lt rfl) ?_
    refine g_n ⟨11, vBool, t1⟩ rfl rfl (noy_b (b := false) hb3) (lt rfl) ?_
    refine g_n ⟨11, vBool, t1⟩ rfl rfl (noy_b (b := false) hb3) (lt rfl) ?_
    refine g_n ⟨11, vBool, t1⟩ rfl rfl (noy_b (b := false) hb3) (lt rfl) ?_
    refine st (l_pickt (o_t rfl) hb3 (o_b) (lt rfl)) ?_
    refine st (l_move (o_t rfl) (lt rfl)) ?_
    refine g_n ⟨18, vBool, true⟩ rfl rfl (noy_b (b := false) rfl) (lt rfl) ?_
    refine g_n ⟨18, vBool, true⟩ rfl rfl (noy_b (b := false) rfl) (lt rfl) ?_
    refine g_n ⟨18, vBool, true⟩ rfl rfl (noy_b (b := false) rfl) (lt rfl) ?_
    refine g_n ⟨18, vBool, true⟩ rfl rfl (noy_b (b := false) rfl) (lt rfl) ?_
    refine g_n ⟨18, vBool, true⟩ rfl rfl (noy_b (b := false) rfl) (lt rfl) ?_
    refine st (l_pickt (o_t rfl) rfl (o_b) (lt rfl)) ?_
    refine r_nil (k_seq ?_)
    refine t_ift (o_t rfl) rfl ?_
    refine t_seq ?_
    refine t_reg ?_
    refine st (l_assign (o_b) (lt rfl)) ?_
    refine r_nil (k_seq ?_)
    cases hp_
    exact t_ret (k_tr <| k_ret () rfl rfl rfl rfl rfl)
-- pointsman/code.Check$2
theorem ok21_0 (n : aNode) (p1 : code_look) (y_ : Bool) (hp_ : code_Check_2 n p1 = some y_) : FP Tryz.prog 21 [⟨(k_aNode).v, n⟩, ⟨vPtr k_code_look, p1⟩] vBool y_ := by
  unfold code_Check_2 at hp_
  refine fc_of 8 Tryz.func21 rfl fn21 rfl (Nat.le_of_ble_eq_true rfl) fun I_ w_ F_ => ?_
  refine t_seq ?_
  refine t_reg ?_
  refine st (l_box (o_t rfl) (lt rfl)) ?_
  refine st (l_assign (o_b) (lt rfl)) ?_
  refine r_nil (k_seq ?_)
  refine t_seq ?_
  refine t_reg ?_
  refine st (l_ld (o_t rfl) ty51 (lt rfl)) ?_
  refine st (l_ld (o_t rfl) ty54 (lt rfl)) ?_
  obtain ⟨t1, h2, hp_⟩ := bs hp_
  refine st (l_call (ok22 p1 n _ h2) (.cons (o_t rfl) (.cons (o_t rfl) (.nil))) (lt rfl)) ?_
  refine st (l_not (o_t rfl) (lt rfl)) ?_
  refine st (l_assign (o_t rfl) (lt rfl)) ?_
  refine r_nil (k_seq ?_)
  cases hp_
  exact t_ret (k_ret () rfl rfl rfl rfl rfl)
-- slices.IndexFunc[[]pointsman/api.Node,pointsman/api.Node]
theorem ok50 (s : List aNode) (f : aNode → Option Bool) (y_ : Int) (hp_ : slices_IndexFunc_49 s f = some y_) : FP Tryz.prog 50 [⟨vSlice k_aNode, s⟩, ⟨vClo Tryz.prog (fun x : aNode => [⟨(k_aNode).v, x⟩]) vBool, f⟩] (vInt .i64) y_ := by
  unfold slices_IndexFunc_49 at hp_
  refine fc_of 19 Tryz.func50 rfl fn50 rfl (Nat.le_of_ble_eq_true rfl) fun I_ w_ F_ => ?_
  refine t_seq ?_
  refine t_reg ?_
  refine st (l_assign (o_i) (lt rfl)) ?_
  refine r_nil (k_seq ?_)
  refine t_seq ?_
  refine t_seq ?_
  refine t_reg ?_
  refine st (l_move (o_t rfl) (lt rfl)) ?_
  refine st (l_lens (o_t rfl) sl24 (lt rfl)) ?_
  refine st (l_move (o_i) (lt rfl)) ?_
  refine r_nil (k_seq ?_)
  obtain ⟨res1_, hl1_0, hx1_⟩ := bs hp_
  clear hp_
  refine t_sub (Γ' := [⟨8, vInt .i64, (0 : Int)⟩, ⟨0, vSlice k_aNode, s⟩, ⟨1, vClo Tryz.prog (fun x : aNode => [⟨(k_aNode).v, x⟩]) vBool, f⟩, ⟨7, vInt .i64, (s.length : Int)⟩]) (Sub.cons rfl (Sub.cons rfl (Sub.cons rfl (Sub.cons rfl (Sub.nil _))))) ?_
  refine t_bloop (β := Nat × Int) (σ := Unit) (fun x_ => [⟨8, vInt .i64, x_.2⟩, ⟨0, vSlice k_aNode, s⟩, ⟨1, vClo Tryz.prog (fun x : aNode => [⟨(k_aNode).v, x⟩]) vBool, f⟩, ⟨7, vInt .i64, (s.length : Int)⟩]) (fun x_ => []) (fun x_ => slices_IndexFunc_49.l1 x_.1 s f x_.2 = some res1_) (fun x_ => x_.1) (fun x_ => []) (fun x_ => []) (fun x_ => res1_ = .go x_) ?_ ?_ ((((s.length : Int) - (0 : Int)).toNat + 1), (0 : Int)) hl1_0
  · rintro ⟨k1_, v8_1⟩ hl1_
    rcases k1_ with _ | k1_
    · exact absurd (show none = some res1_ from hl1_) (by simp)
    replace hl1_ : slices_IndexFunc_49.l1 (k1_ + 1) s f v8_1 = some res1_ := hl1_
    rw [slices_IndexFunc_49.l1.eq_2] at hl1_
    show Tr Tryz.prog _ [⟨8, vInt .i64, v8_1⟩, ⟨0, vSlice k_aNode, s⟩, ⟨1, vClo Tryz.prog (fun x : aNode => [⟨(k_aNode).v, x⟩]) vBool, f⟩, ⟨7, vInt .i64, (s.length : Int)⟩] [] _ _
    refine t_seq ?_
    refine t_reg ?_
    refine st (l_cmp (o_t rfl) (o_t rfl) .lss (lt rfl)) ?_
    refine r_nil (k_seq ?_)
    refine t_seq ?_
    rcases bt (decide (v8_1 < (s.length : Int))) with hb1 | hb1
    · rw [if_neg (nt hb1)] at hl1_
      refine t_iff (o_t rfl) hb1 ?_
      exact t_exit (k_te <| k_te <| k_be <| k_brk () (Option.some.inj hl1_).symm (Sub.nil _) rfl)
    · rw [if_pos hb1] at hl1_
      refine t_ift (o_t rfl) hb1 ?_
      refine t_skip (k_seq ?_)
      refine t_seq ?_
      refine t_blk ?_
      refine t_seq ?_
      refine t_reg ?_
      refine st (l_move (o_t rfl) (lt rfl)) ?_
      refine st (l_assign (o_t rfl) (lt rfl)) ?_
      refine r_nil (k_seq ?_)
      refine t_seq ?_
      refine t_reg ?_
      refine st (l_move (o_t rfl) (lt rfl)) ?_
      refine st (l_move (o_t rfl) (lt rfl)) ?_
      refine st (l_move (o_t rfl) (lt rfl)) ?_
      obtain ⟨t2, h3, hl1_⟩ := bs hl1_
      refine st (l_ia (o_t rfl) (o_t rfl) h3 sl24 sz54 (lt rfl)) ?_
      refine st (l_ld (o_t rfl) ty54 (lt rfl)) ?_
      obtain ⟨t4, h5, hl1_⟩ := bs hl1_
      refine st (l_callc (o_t rfl) (x := t2) (.cons (o_t rfl) (.nil)) h5 (lt rfl)) ?_
      refine r_nil (k_seq ?_)
      rcases bt (t4) with hb6 | hb6
      · rw [if_neg (nt hb6)] at hl1_
        refine t_iff (o_t rfl) hb6 ?_
        refine t_skip (k_bn <| k_seq ?_)
        refine t_reg ?_
        refine st (l_bin (o_t rfl) (o_i) .add (lt rfl)) ?_
        refine st (l_move (o_t rfl) (lt rfl)) ?_
        exact r_nil (k_again (k1_, IntKind.wrap .i64 (v8_1 + (1 : Int))) hl1_ (Nat.lt_succ_self _) (Sub.cons rfl (Sub.cons rfl (Sub.cons rfl (Sub.cons rfl (Sub.nil _))))) rfl)
      · rw [if_pos hb6] at hl1_
        refine t_ift (o_t rfl) hb6 ?_
        refine t_seq ?_
        refine t_reg ?_
        refine st (l_move (o_t rfl) (lt rfl)) ?_
        refine st (l_assign (o_t rfl) (lt rfl)) ?_
        refine r_nil (k_seq ?_)
        cases hl1_
        dsimp only [Ex.elim] at hx1_
        cases hx1_
        exact t_ret (k_br <| k_tr <| k_tr <| k_br <| k_brk_r <| k_tr <| k_ret () rfl rfl rfl rfl rfl)
  · intro s1_ hs1_
    replace hs1_ : res1_ = .go s1_ := hs1_
    subst hs1_
    dsimp only [Ex.elim] at hx1_
    have hp_ := hx1_
    clear hx1_
    show Kx _ [] [] _ _
    refine k_seq ?_
    refine t_seq ?_
    refine t_reg ?_
    refine st (l_assign (o_i) (lt rfl)) ?_
    refine r_nil (k_seq ?_)
    cases hp_
    exact t_ret (k_ret () rfl rfl rfl rfl rfl)
-- slices.ContainsFunc[[]pointsman/api.Node,pointsman/api.Node]
theorem ok20 (s : List aNode) (f : aNode → Option Bool) (y_ : Bool) (hp_ : slices_ContainsFunc_17 s f = some y_) : FP Tryz.prog 20 [⟨vSlice k_aNode, s⟩, ⟨vClo Tryz.prog (fun x : aNode => [⟨(k_aNode).v, x⟩]) vBool, f⟩] vBool y_ := by
  unfold slices_ContainsFunc_17 at hp_
  refine fc_of 9 Tryz.func20 rfl fn20 rfl (Nat.le_of_ble_eq_true rfl) fun I_ w_ F_ => ?_
  refine t_seq ?_
  refine t_reg ?_
  refine st (l_assign (o_b) (lt rfl)) ?_
  refine r_nil (k_seq ?_)
  refine t_seq ?_
  refine t_reg ?_
  refine st (l_move (o_t rfl) (lt rfl)) ?_
  refine st (l_move (o_t rfl) (lt rfl)) ?_
  obtain ⟨t1, h2, hp_⟩ := bs hp_
  refine st (l_call (ok50 s f _ h2) (.cons (o_t rfl) (.cons (o_t rfl) (.nil))) (lt rfl)) ?_
  refine st (l_cmp (o_t rfl) (o_i) .geq (lt rfl)) ?_
  refine st (l_assign (o_t rfl) (lt rfl)) ?_
  refine r_nil (k_seq ?_)
  cases hp_
  exact t_ret (k_ret () rfl rfl rfl rfl rfl)
-- (pointsman/code.look).table$1
theorem ok61_0 (b : aBits) (n : Int) (p2 : code_look) (y_ : Bool) (hp_ : code_look_table_1 b n p2 = some y_) : FP Tryz.prog 61 [⟨(k_aBits).v, b⟩, ⟨vInt .i64, n⟩, ⟨vPtr k_code_look, p2⟩] vBool y_ := by
  unfold code_look_table_1 at hp_
  refine fc_of 15 Tryz.func61 rfl fn61 rfl (Nat.le_of_ble_eq_true rfl) fun I_ w_ F_ => ?_
  refine t_seq ?_
  refine t_reg ?_
  refine st (l_box (o_t rfl) (lt rfl)) ?_
  refine st (l_assign (o_b) (lt rfl)) ?_
  refine r_nil (k_seq ?_)
  refine t_seq ?_
  refine t_reg ?_
  refine st (l_ld (o_t rfl) ty72 (lt rfl)) ?_
  obtain ⟨t1, h2, hp_⟩ := bs hp_
  refine st (l_call (ok57 b _ h2) (.cons (o_t rfl) (.nil)) (lt rfl)) ?_
  refine st (l_move (o_t rfl) (lt rfl)) ?_
  rcases bt (t1) with hb3 | hb3
  · rw [if_neg (nt hb3)] at hp_
    refine g_n ⟨8, vBool, t1⟩ rfl rfl (noy_b (b := true) hb3) (lt rfl) ?_
    refine g_n ⟨8, vBool, t1⟩ rfl rfl (noy_b (b := true) hb3) (lt rfl) ?_
    refine g_n ⟨8, vBool, t1⟩ rfl rfl (noy_b (b := true) hb3) (lt rfl) ?_
    refine g_n ⟨8, vBool, t1⟩ rfl rfl (noy_b (b := true) hb3) (lt rfl) ?_
    refine g_n ⟨8, vBool, t1⟩ rfl rfl (noy_b (b := true) hb3) (lt rfl) ?_
    refine st (l_pickf (o_t rfl) hb3 (o_b) (lt rfl)) ?_
    refine st (l_assign (o_t rfl) (lt rfl)) ?_
    refine r_nil (k_seq ?_)
    cases hp_
    exact t_ret (k_ret () rfl rfl rfl rfl rfl)
  · rw [if_pos hb3] at hp_
    refine g_t rfl rfl hb3 ?_
    refine st (l_ld (o_t rfl) ty51 (lt rfl)) ?_
    refine g_t rfl rfl hb3 ?_
    refine st (l_move (o_t rfl) (lt rfl)) ?_
    refine g_t rfl rfl hb3 ?_
    refine st (l_fa (o_t rfl) fl_aBits_0 fa72_0 (lt rfl)) ?_
    refine g_t rfl rfl hb3 ?_
    refine st (l_ld (o_t rfl) ty3 (lt rfl)) ?_
    refine g_t rfl rfl hb3 ?_
    obtain ⟨t4, h5, hp_⟩ := bs hp_
    refine st (l_call (ok45 p2 n b.W _ h5) (.cons (o_t rfl) (.cons (o_t rfl) (.cons (o_t rfl) (.nil)))) (lt rfl)) ?_
    refine st (l_pickt (o_t rfl) hb3 (o_t rfl) (lt rfl)) ?_
    refine st (l_assign (o_t rfl) (lt rfl)) ?_
    refine r_nil (k_seq ?_)
    cases hp_
    exact t_ret (k_ret () rfl rfl rfl rfl rfl)
-- slices.EqualFunc[[]pointsman/api.Bits,[]int,pointsman/api.Bits,int]
theorem ok60 (s1_0 : List aBits) (s2_1 : List Int) (eq : (aBits × Int) → Option Bool) (y_ : Bool) (hp_ : slices_EqualFunc_api_Bits_int_api_Bits_int s1_0 s2_1 eq = some y_) : FP Tryz.prog 60 [⟨vSlice k_aBits, s1_0⟩, ⟨vSlice (kInt .i64), s2_1⟩, ⟨vClo Tryz.prog (fun x : aBits × Int => [⟨(k_aBits).v, x.1⟩, ⟨vInt .i64, x.2⟩]) vBool, eq⟩] vBool y_ := by
  unfold slices_EqualFunc_api_Bits_int_api_Bits_int at hp_
  refine fc_of 32 Tryz.func60 rfl fn60 rfl (Nat.le_of_ble_eq_true rfl) fun I_ w_ F_ => ?_
  refine t_seq ?_
  refine t_reg ?_
  refine st (l_assign (o_b) (lt rfl)) ?_
  refine r_nil (k_seq ?_)
  refine t_seq ?_
  refine t_seq ?_
  refine t_reg ?_
  refine st (l_move (o_t rfl) (lt rfl)) ?_
  refine st (l_lens (o_t rfl) sl37 (lt rfl)) ?_
  refine st (l_move (o_t rfl) (lt rfl)) ?_
  refine st (l_lens (o_t rfl) sl22 (lt rfl)) ?_
  refine st (l_cmp (o_t rfl) (o_t rfl) .neq (lt rfl)) ?_
  refine r_nil (k_seq ?_)
  rcases bt ((s1_0.length : Int) != (s2_1.length : Int)) with hb1 | hb1
  · rw [if_neg (nt hb1)] at hp_
    refine t_iff (o_t rfl) hb1 ?_
    refine t_skip (k_seq ?_)
    refine t_seq ?_
    refine t_seq ?_
    refine t_reg ?_
    refine st (l_move (o_t rfl) (lt rfl)) ?_
    refine st (l_lens (o_t rfl) sl37 (lt rfl)) ?_
    refine st (l_move (o_i) (lt rfl)) ?_
    refine r_nil (k_seq ?_)
    obtain ⟨res1_, hl1_0, hx1_⟩ := bs hp_
    clear hp_
    refine t_sub (Γ' := [⟨17, vInt .i64, (0 : Int)⟩, ⟨1, vSlice (kInt .i64), s2_1⟩, ⟨2, vClo Tryz.prog (fun x : aBits × Int => [⟨(k_aBits).v, x.1⟩, ⟨vInt .i64, x.2⟩]) vBool, eq⟩, ⟨15, vSlice k_aBits, s1_0⟩, ⟨16, vInt .i64, (s1_0.length : Int)⟩]) (Sub.cons rfl (Sub.cons rfl (Sub.cons rfl (Sub.cons rfl (Sub.cons rfl (Sub.nil _)))))) ?_
    refine t_bloop (β := Nat × Int) (σ := Unit) (fun x_ => [⟨17, vInt .i64, x_.2⟩, ⟨1, vSlice (kInt .i64), s2_1⟩, ⟨2, vClo Tryz.prog (fun x : aBits × Int => [⟨(k_aBits).v, x.1⟩, ⟨vInt .i64, x.2⟩]) vBool, eq⟩, ⟨15, vSlice k_aBits, s1_0⟩, ⟨16, vInt .i64, (s1_0.length : Int)⟩]) (fun x_ => []) (fun x_ => slices_EqualFunc_int_api_Bits_int.l1 x_.1 s1_0 s2_1 eq x_.2 = some res1_) (fun x_ => x_.1) (fun x_ => []) (fun x_ => []) (fun x_ => res1_ = .go x_) ?_ ?_ ((((s1_0.length : Int) - (0 : Int)).toNat + 1), (0 : Int)) hl1_0
    · rintro ⟨k1_, v17_1⟩ hl1_
      rcases k1_ with _ | k1_
      · exact absurd (show none = some res1_ from hl1_) (by simp)
      replace hl1_ : slices_EqualFunc_int_api_Bits_int.l1 (k1_ + 1) s1_0 s2_1 eq v17_1 = some res1_ := hl1_
      rw [slices_EqualFunc_int_api_Bits_int.l1.eq_2] at hl1_
      show Tr Tryz.prog _ [⟨17, vInt .i64, v17_1⟩, ⟨1, vSlice (kInt .i64), s2_1⟩, ⟨2, vClo Tryz.prog (fun x : aBits × Int => [⟨(k_aBits).v, x.1⟩, ⟨vInt .i64, x.2⟩]) vBool, eq⟩, ⟨15, vSlice k_aBits, s1_0⟩, ⟨16, vInt .i64, (s1_0.length : Int)⟩] [] _ _
      refine t_seq ?_
      refine t_reg ?_
      refine st (l_cmp (o_t rfl) (o_t rfl) .lss (lt rfl)) ?_
      refine r_nil (k_seq ?_)
      refine t_seq ?_
      rcases bt (decide (v17_1 < (s1_0.length : Int))) with hb2 | hb2
      · rw [if_neg (nt hb2)] at hl1_
        refine t_iff (o_t rfl) hb2 ?_
        exact t_exit (k_te <| k_te <| k_be <| k_brk () (Option.some.inj hl1_).symm (Sub.nil _) rfl)
      · rw [if_pos hb2] at hl1_
        refine t_ift (o_t rfl) hb2 ?_
        refine t_skip (k_seq ?_)
        refine t_seq ?_
        refine t_blk ?_
        refine t_seq ?_
        refine t_reg ?_
        refine st (l_move (o_t rfl) (lt rfl)) ?_
        obtain ⟨t3, h4, hl1_⟩ := bs hl1_
        refine st (l_ia (o_t rfl) (o_t rfl) h4 sl37 sz72 (lt rfl)) ?_
        refine st (l_ld (o_t rfl) ty72 (lt rfl)) ?_
        refine r_alloc zr72 (lt rfl) (fun b5 => ?_)
        refine st (l_assign (o_t rfl) (lt rfl)) ?_
        refine r_stm (i := 0) (o_t rfl) (o_t rfl) rfl (Fld.refl _) sz72 ?_
        refine r_nil (k_seq ?_)
        refine t_seq ?_
        refine t_reg ?_
        refine st (l_move (o_t rfl) (lt rfl)) ?_
        refine st (l_move (o_t rfl) (lt rfl)) ?_
        obtain ⟨t7, h8, hl1_⟩ := bs hl1_
        refine st (l_ia (o_t rfl) (o_t rfl) h8 sl22 sz3 (lt rfl)) ?_
        refine st (l_ld (o_t rfl) ty3 (lt rfl)) ?_
        refine st (l_assign (o_t rfl) (lt rfl)) ?_
        refine r_nil (k_seq ?_)
        refine t_seq ?_
        refine t_reg ?_
        refine st (l_move (o_t rfl) (lt rfl)) ?_
        refine st (l_ldm (i := 0) (o_t rfl) rfl (Fld.refl _) ty72 (lt rfl)) ?_
        refine st (l_move (o_t rfl) (lt rfl)) ?_
        obtain ⟨t9, h10, hl1_⟩ := bs hl1_
        refine st (l_callc (o_t rfl) (x := (t3, t7)) (.cons (o_t rfl) (.cons (o_t rfl) (.nil))) h10 (lt rfl)) ?_
        refine st (l_not (o_t rfl) (lt rfl)) ?_
        refine r_nil (k_seq ?_)
        rcases bt (!t9) with hb11 | hb11
        · rw [if_neg (nt hb11)] at hl1_
          refine t_iff (o_t rfl) hb11 ?_
          refine t_skip (k_bn <| k_seq ?_)
          refine t_reg ?_
          refine st (l_bin (o_t rfl) (o_i) .add (lt rfl)) ?_
          refine st (l_move (o_t rfl) (lt rfl)) ?_
          exact r_nil (k_take 0 <| k_again (k1_, IntKind.wrap .i64 (v17_1 + (1 : Int))) hl1_ (Nat.lt_succ_self _) (Sub.cons rfl (Sub.cons rfl (Sub.cons rfl (Sub.cons rfl (Sub.cons rfl (Sub.nil _)))))) rfl)
        · rw [if_pos hb11] at hl1_
          refine t_ift (o_t rfl) hb11 ?_
          refine t_seq ?_
          refine t_reg ?_
          refine st (l_assign (o_b) (lt rfl)) ?_
          refine r_nil (k_seq ?_)
          cases hl1_
          dsimp only [Ex.elim] at hx1_
          cases hx1_
          exact t_ret (k_br <| k_tr <| k_tr <| k_br <| k_brk_r <| k_tr <| k_drop <| k_ret () rfl rfl rfl rfl rfl)
    · intro s1_ hs1_
      replace hs1_ : res1_ = .go s1_ := hs1_
      subst hs1_
      dsimp only [Ex.elim] at hx1_
      have hp_ := hx1_
      clear hx1_
      show Kx _ [] [] _ _
      refine k_seq ?_
      refine t_seq ?_
      refine t_reg ?_
      refine st (l_assign (o_b) (lt rfl)) ?_
      refine r_nil (k_seq ?_)
      cases hp_
      exact t_ret (k_ret () rfl rfl rfl rfl rfl)
  · rw [if_pos hb1] at hp_
    refine t_ift (o_t rfl) hb1 ?_
    refine t_seq ?_
    refine t_reg ?_
    refine st (l_assign (o_b) (lt rfl)) ?_
    refine r_nil (k_seq ?_)
    cases hp_
    exact t_ret (k_tr <| k_ret () rfl rfl rfl rfl rfl)
-- (pointsman/code.look).table
theorem ok25 (p0 : code_look) (p1 : aTable) (y_ : Bool) (hp_ : code_look_table p0 p1 = some y_) : FP Tryz.prog 25 [⟨(k_code_look).v, p0⟩, ⟨(k_aTable).v, p1⟩] vBool y_ := by
  unfold code_look_table at hp_
  refine fc_of 95 Tryz.func25 rfl fn25 rfl (Nat.le_of_ble_eq_true rfl) fun I_ w_ F_ => ?_
  refine t_seq ?_
  refine t_reg ?_
  refine st (l_box (o_t rfl) (lt rfl)) ?_
  refine st (l_box (o_t rfl) (lt rfl)) ?_
  refine st (l_assign (o_b) (lt rfl)) ?_
  refine r_nil (k_seq ?_)
  refine t_seq ?_
  refine t_reg ?_
  refine st (l_assign (o_i) (lt rfl)) ?_
  refine r_nil (k_seq ?_)
  refine t_seq ?_
  refine t_seq ?_
  refine t_reg ?_
  refine st (l_fa (o_t rfl) fl_aTable_2 fa39_2 (lt rfl)) ?_
  refine st (l_ld (o_t rfl) ty36 (lt rfl)) ?_
  refine st (l_lens (o_t rfl) sl36 (lt rfl)) ?_
  refine st (l_move (o_i) (lt rfl)) ?_
  refine r_nil (k_seq ?_)
  obtain ⟨res1_, hl1_0, hx1_⟩ := bs hp_
  clear hp_
  refine t_sub (Γ' := [⟨5, vInt .i64, (0 : Int)⟩, ⟨11, vInt .i64, (0 : Int)⟩, ⟨2, vPtr k_code_look, p0⟩, ⟨3, vPtr k_aTable, p1⟩, ⟨9, vSlice (kInt .u8), p1.Kinds⟩, ⟨10, vInt .i64, (p1.Kinds.length : Int)⟩]) (Sub.cons rfl (Sub.cons rfl (Sub.cons rfl (Sub.cons rfl (Sub.cons rfl (Sub.cons rfl (Sub.nil _))))))) ?_
  refine t_bloop (β := Nat × Int × Int) (σ := Int) (fun x_ => [⟨5, vInt .i64, x_.2.1⟩, ⟨11, vInt .i64, x_.2.2⟩, ⟨2, vPtr k_code_look, p0⟩, ⟨3, vPtr k_aTable, p1⟩, ⟨9, vSlice (kInt .u8), p1.Kinds⟩, ⟨10, vInt .i64, (p1.Kinds.length : Int)⟩]) (fun x_ => []) (fun x_ => code_look_table.l1 x_.1 p1 x_.2.1 x_.2.2 = some res1_) (fun x_ => x_.1) (fun x_ => [⟨2, vPtr k_code_look, p0⟩, ⟨3, vPtr k_aTable, p1⟩, ⟨5, vInt .i64, x_⟩]) (fun x_ => []) (fun x_ => res1_ = .go x_) ?_ ?_ ((((p1.Kinds.length : Int) - (0 : Int)).toNat + 1), (0 : Int), (0 : Int)) hl1_0
  · rintro ⟨k1_, v5_1, v11_1⟩ hl1_
    rcases k1_ with _ | k1_
    · exact absurd (show none = some res1_ from hl1_) (by simp)
    replace hl1_ : code_look_table.l1 (k1_ + 1) p1 v5_1 v11_1 = some res1_ := hl1_
    rw [code_look_table.l1.eq_2] at hl1_
    show Tr Tryz.prog _ [⟨5, vInt .i64, v5_1⟩, ⟨11, vInt .i64, v11_1⟩, ⟨2, vPtr k_code_look, p0⟩, ⟨3, vPtr k_aTable, p1⟩, ⟨9, vSlice (kInt .u8), p1.Kinds⟩, ⟨10, vInt .i64, (p1.Kinds.length : Int)⟩] [] _ _
    refine t_seq ?_
    refine t_reg ?_
    refine st (l_cmp (o_t rfl) (o_t rfl) .lss (lt rfl)) ?_
    refine r_nil (k_seq ?_)
    refine t_seq ?_
    rcases bt (decide (v11_1 < (p1.Kinds.length : Int))) with hb1 | hb1
    · rw [if_neg (nt hb1)] at hl1_
      refine t_iff (o_t rfl) hb1 ?_
      exact t_exit (k_te <| k_te <| k_be <| k_brk v5_1 (Option.some.inj hl1_).symm (Sub.cons rfl (Sub.cons rfl (Sub.cons rfl (Sub.nil _)))) rfl)
    · rw [if_pos hb1] at hl1_
      refine t_ift (o_t rfl) hb1 ?_
      refine t_skip (k_seq ?_)
      refine t_seq ?_
      refine t_blk ?_
      refine t_seq ?_
      refine t_reg ?_
      obtain ⟨t2, h3, hl1_⟩ := bs hl1_
      refine st (l_ia (o_t rfl) (o_t rfl) h3 sl36 sz103 (lt rfl)) ?_
      refine st (l_ld (o_t rfl) ty103 (lt rfl)) ?_
      refine st (l_assign (o_t rfl) (lt rfl)) ?_
      refine r_nil (k_seq ?_)
      refine t_seq ?_
      refine t_seq ?_
      refine t_reg ?_
      refine st (l_move (o_t rfl) (lt rfl)) ?_
      refine st (l_cmp (o_t rfl) (o_i) .lss (lt rfl)) ?_
      refine st (l_move (o_t rfl) (lt rfl)) ?_
      rcases bt (decide (t2 < (1 : Int))) with hb4 | hb4
      · rw [if_neg (nt hb4)] at hl1_
        refine g_t rfl rfl hb4 ?_
        refine st (l_move (o_t rfl) (lt rfl)) ?_
        refine g_t rfl rfl hb4 ?_
        refine st (l_cmp (o_t rfl) (o_i) .gtr (lt rfl)) ?_
        refine st (l_pickf (o_t rfl) hb4 (o_t rfl) (lt rfl)) ?_
        refine r_nil (k_seq ?_)
        rcases bt (decide (t2 > (4 : Int))) with hb5 | hb5
        · rw [if_neg (nt hb5)] at hl1_
          refine t_iff (o_t rfl) hb5 ?_
          refine t_skip (k_seq ?_)
          refine t_seq ?_
          refine t_reg ?_
          refine st (l_move (o_t rfl) (lt rfl)) ?_
          refine st (l_cmp (o_t rfl) (o_i) .eql (lt rfl)) ?_
          refine r_nil (k_seq ?_)
          rcases bt (t2 == (2 : Int)) with hb6 | hb6
          · rw [if_neg (nt hb6)] at hl1_
            refine t_iff (o_t rfl) hb6 ?_
            refine t_skip (k_bn <| k_seq ?_)
            refine t_reg ?_
            refine st (l_bin (o_t rfl) (o_i) .add (lt rfl)) ?_
            refine st (l_move (o_t rfl) (lt rfl)) ?_
            exact r_nil (k_again (k1_, v5_1, IntKind.wrap .i64 (v11_1 + (1 : Int))) hl1_ (Nat.lt_succ_self _) (Sub.cons rfl (Sub.cons rfl (Sub.cons rfl (Sub.cons rfl (Sub.cons rfl (Sub.cons rfl (Sub.nil _))))))) rfl)
          · rw [if_pos hb6] at hl1_
            refine t_ift (o_t rfl) hb6 ?_
            refine t_reg ?_
            refine st (l_move (o_t rfl) (lt rfl)) ?_
            refine st (l_bin (o_t rfl) (o_i) .add (lt rfl)) ?_
            refine st (l_assign (o_t rfl) (lt rfl)) ?_
            refine r_nil (k_bn <| k_seq ?_)
            refine t_reg ?_
            refine st (l_bin (o_t rfl) (o_i) .add (lt rfl)) ?_
            refine st (l_move (o_t rfl) (lt rfl)) ?_
            exact r_nil (k_again (k1_, IntKind.wrap .i64 (v5_1 + (1 : Int)), IntKind.wrap .i64 (v11_1 + (1 : Int))) hl1_ (Nat.lt_succ_self _) (Sub.cons rfl (Sub.cons rfl (Sub.cons rfl (Sub.cons rfl (Sub.cons rfl (Sub.cons rfl (Sub.nil _))))))) rfl)
        · rw [if_pos hb5] at hl1_
          refine t_ift (o_t rfl) hb5 ?_
          refine t_seq ?_
          refine t_reg ?_
          refine st (l_assign (o_b) (lt rfl)) ?_
          refine r_nil (k_seq ?_)
          cases hl1_
          dsimp only [Ex.elim] at hx1_
          cases hx1_
          exact t_ret (k_tr <| k_br <| k_tr <| k_tr <| k_br <| k_brk_r <| k_tr <| k_ret () rfl rfl rfl rfl rfl)
      · rw [if_pos hb4] at hl1_
        refine g_n ⟨17, vBool, decide (t2 < (1 : Int))⟩ rfl rfl (noy_b (b := false) hb4) (lt rfl) ?_
        refine g_n ⟨17, vBool, decide (t2 < (1 : Int))⟩ rfl rfl (noy_b (b := false) hb4) (lt rfl) ?_
        refine st (l_pickt (o_t rfl) hb4 (o_b) (lt rfl)) ?_
        refine r_nil (k_seq ?_)
        refine t_ift (o_t rfl) rfl ?_
        refine t_seq ?_
        refine t_reg ?_
        refine st (l_assign (o_b) (lt rfl)) ?_
        refine r_nil (k_seq ?_)
        cases hl1_
        dsimp only [Ex.elim] at hx1_
        cases hx1_
        exact t_ret (k_tr <| k_br <| k_tr <| k_tr <| k_br <| k_brk_r <| k_tr <| k_ret () rfl rfl rfl rfl rfl)
  · intro s1_ hs1_
    replace hs1_ : res1_ = .go s1_ := hs1_
    subst hs1_
    dsimp only [Ex.elim] at hx1_
    have hp_ := hx1_
    clear hx1_
    show Kx _ [⟨2, vPtr k_code_look, p0⟩, ⟨3, vPtr k_aTable, p1⟩, ⟨5, vInt .i64, s1_⟩] [] _ _
    refine k_seq ?_
    refine t_seq ?_
    refine t_seq ?_
    refine t_reg ?_
    refine st (l_fa (o_t rfl) fl_aTable_1 fa39_1 (lt rfl)) ?_
    refine st (l_ld (o_t rfl) ty22 (lt rfl)) ?_
    refine st (l_lens (o_t rfl) sl22 (lt rfl)) ?_
    refine st (l_cmp (o_t rfl) (o_i) .gtr (lt rfl)) ?_
    refine st (l_move (o_t rfl) (lt rfl)) ?_
    rcases bt (decide ((p1.Keys.length : Int) > (64 : Int))) with hb7 | hb7
    · rw [if_neg (nt hb7)] at hp_
      refine g_t rfl rfl hb7 ?_
      refine st (l_fa (o_t rfl) fl_aTable_2 fa39_2 (lt rfl)) ?_
      refine g_t rfl rfl hb7 ?_
      refine st (l_ld (o_t rfl) ty36 (lt rfl)) ?_
      refine g_t rfl rfl hb7 ?_
      refine st (l_lens (o_t rfl) sl36 (lt rfl)) ?_
      refine g_t rfl rfl hb7 ?_
      refine st (l_fa (o_t rfl) fl_aTable_1 fa39_1 (lt rfl)) ?_
      refine g_t rfl rfl hb7 ?_
      refine st (l_ld (o_t rfl) ty22 (lt rfl)) ?_
      refine g_t rfl rfl hb7 ?_
      refine st (l_lens (o_t rfl) sl22 (lt rfl)) ?_
      refine g_t rfl rfl hb7 ?_
      refine st (l_cmp (o_t rfl) (o_t rfl) .neq (lt rfl)) ?_
      refine st (l_pickf (o_t rfl) hb7 (o_t rfl) (lt rfl)) ?_
      refine st (l_move (o_t rfl) (lt rfl)) ?_
      rcases bt ((p1.Kinds.length : Int) != (p1.Keys.length : Int)) with hb8 | hb8
      · rw [if_neg (nt hb8)] at hp_
        refine g_t rfl rfl hb8 ?_
        refine st (l_move (o_t rfl) (lt rfl)) ?_
        refine g_t rfl rfl hb8 ?_
        refine st (l_cmp (o_t rfl) (o_i) .gtr (lt rfl)) ?_
        refine st (l_pickf (o_t rfl) hb8 (o_t rfl) (lt rfl)) ?_
        refine st (l_move (o_t rfl) (lt rfl)) ?_
        rcases bt (decide (s1_ > (1 : Int))) with hb9 | hb9
        · rw [if_neg (nt hb9)] at hp_
          refine g_t rfl rfl hb9 ?_
          refine st (l_ld (o_t rfl) ty51 (lt rfl)) ?_
          refine g_t rfl rfl hb9 ?_
          refine st (l_fa (o_t rfl) fl_aTable_1 fa39_1 (lt rfl)) ?_
          refine g_t rfl rfl hb9 ?_
          refine st (l_ld (o_t rfl) ty22 (lt rfl)) ?_
          refine g_t rfl rfl hb9 ?_
          obtain ⟨t10, h11, hp_⟩ := bs hp_
          refine st (l_call (ok59 p0 p1.Keys _ h11) (.cons (o_t rfl) (.cons (o_t rfl) (.nil))) (lt rfl)) ?_
          refine g_t rfl rfl hb9 ?_
          refine st (l_not (o_t rfl) (lt rfl)) ?_
          refine st (l_pickf (o_t rfl) hb9 (o_t rfl) (lt rfl)) ?_
          refine st (l_move (o_t rfl) (lt rfl)) ?_
          rcases bt (!t10) with hb12 | hb12
          · rw [if_neg (nt hb12)] at hp_
            refine g_t rfl rfl hb12 ?_
            refine st (l_ld (o_t rfl) ty51 (lt rfl)) ?_
            refine g_t rfl rfl hb12 ?_
            refine st (l_fa (o_t rfl) fl_aTable_7 fa39_7 (lt rfl)) ?_
            refine g_t rfl rfl hb12 ?_
            refine st (l_ld (o_t rfl) ty25 (lt rfl)) ?_
            refine g_t rfl rfl hb12 ?_
            obtain ⟨t13, h14, hp_⟩ := bs hp_
            refine st (l_call (ok28 p0 p1.Before true false _ h14) (.cons (o_t rfl) (.cons (o_t rfl) (.cons (o_b) (.cons (o_b) (.nil))))) (lt rfl)) ?_
            refine g_t rfl rfl hb12 ?_
            refine st (l_not (o_t rfl) (lt rfl)) ?_
            refine st (l_pickf (o_t rfl) hb12 (o_t rfl) (lt rfl)) ?_
            refine r_nil (k_seq ?_)
            rcases bt (!t13) with hb15 | hb15
            · rw [if_neg (nt hb15)] at hp_
              refine t_iff (o_t rfl) hb15 ?_
              refine t_skip (k_seq ?_)
              refine t_seq ?_
              refine t_seq ?_
              refine t_reg ?_
              refine st (l_fa (o_t rfl) fl_aTable_6 fa39_6 (lt rfl)) ?_
              refine st (l_ld (o_t rfl) ty3 (lt rfl)) ?_
              refine st (l_cmp (o_t rfl) (o_i) .lss (lt rfl)) ?_
              refine st (l_move (o_t rfl) (lt rfl)) ?_
              rcases bt (decide (p1.Size < (1 : Int))) with hb16 | hb16
              · rw [if_neg (nt hb16)] at hp_
                refine g_t rfl rfl hb16 ?_
                refine st (l_fa (o_t rfl) fl_aTable_6 fa39_6 (lt rfl)) ?_
                refine g_t rfl rfl hb16 ?_
                refine st (l_ld (o_t rfl) ty3 (lt rfl)) ?_
                refine g_t rfl rfl hb16 ?_
                refine st (l_cmp (o_t rfl) (o_i) .gtr (lt rfl)) ?_
                refine st (l_pickf (o_t rfl) hb16 (o_t rfl) (lt rfl)) ?_
                refine st (l_move (o_t rfl) (lt rfl)) ?_
                rcases bt (decide (p1.Size > (4096 : Int))) with hb17 | hb17
                · rw [if_neg (nt hb17)] at hp_
                  refine g_t rfl rfl hb17 ?_
                  refine st (l_fa (o_t rfl) fl_aTable_3 fa39_3 (lt rfl)) ?_
                  refine g_t rfl rfl hb17 ?_
                  refine st (l_ld (o_t rfl) ty22 (lt rfl)) ?_
                  refine g_t rfl rfl hb17 ?_
                  refine st (l_fa (o_t rfl) fl_code_look_0 fa51_0 (lt rfl)) ?_
                  refine g_t rfl rfl hb17 ?_
                  refine st (l_fa (o_t rfl) fl_aCode_5 fa30_5 (lt rfl)) ?_
                  refine g_t rfl rfl hb17 ?_
                  refine st (l_ld (o_t rfl) ty26 (lt rfl)) ?_
                  refine g_t rfl rfl hb17 ?_
                  refine st (l_lens (o_t rfl) sl26 (lt rfl)) ?_
                  refine g_t rfl rfl hb17 ?_
                  obtain ⟨t18, h19, hp_⟩ := bs hp_
                  refine st (l_call (ok16 p1.Actions (p0.c.Acts.length : Int) _ h19) (.cons (o_t rfl) (.cons (o_t rfl) (.nil))) (lt rfl)) ?_
                  refine g_t rfl rfl hb17 ?_
                  refine st (l_not (o_t rfl) (lt rfl)) ?_
                  refine st (l_pickf (o_t rfl) hb17 (o_t rfl) (lt rfl)) ?_
                  refine st (l_move (o_t rfl) (lt rfl)) ?_
                  rcases bt (!t18) with hb20 | hb20
                  · rw [if_neg (nt hb20)] at hp_
                    refine g_t rfl rfl hb20 ?_
                    refine st (l_fa (o_t rfl) fl_aTable_3 fa39_3 (lt rfl)) ?_
                    refine g_t rfl rfl hb20 ?_
                    refine st (l_ld (o_t rfl) ty22 (lt rfl)) ?_
                    refine g_t rfl rfl hb20 ?_
                    refine st (l_fa (o_t rfl) fl_aTable_4 fa39_4 (lt rfl)) ?_
                    refine g_t rfl rfl hb20 ?_
                    refine st (l_ld (o_t rfl) ty3 (lt rfl)) ?_
                    refine g_t rfl rfl hb20 ?_
                    obtain ⟨t21, h22, hp_⟩ := bs hp_
                    refine st (l_call (ok48 p1.Actions p1.Default _ h22) (.cons (o_t rfl) (.cons (o_t rfl) (.nil))) (lt rfl)) ?_
                    refine g_t rfl rfl hb20 ?_
                    refine st (l_not (o_t rfl) (lt rfl)) ?_
                    refine st (l_pickf (o_t rfl) hb20 (o_t rfl) (lt rfl)) ?_
                    refine r_nil (k_seq ?_)
                    rcases bt (!t21) with hb23 | hb23
                    · rw [if_neg (nt hb23)] at hp_
                      refine t_iff (o_t rfl) hb23 ?_
                      refine t_skip (k_seq ?_)
                      refine t_seq ?_
                      obtain ⟨t24, h25, hp_⟩ := bs hp_
                      obtain ⟨t26, h27, hp_⟩ := bs hp_
                      refine t_draw [(0, fun gs_ => some ⟨83, vPtr (kSlice k_aBits), p1.Args⟩), (0, fun gs_ => some ⟨84, vSlice k_aBits, p1.Args⟩), (0, fun gs_ => some ⟨85, vPtr k_aCode, p0.c⟩), (0, fun gs_ => some ⟨86, vPtr (kSlice k_aAct), p0.c.Acts⟩), (0, fun gs_ => some ⟨87, vSlice k_aAct, p0.c.Acts⟩), (0, fun gs_ => some ⟨88, vPtr (kInt .i64), p1.Default⟩), (0, fun gs_ => some ⟨89, vInt .i64, p1.Default⟩), (0, fun gs_ => some ⟨90, vPtr k_aAct, t24⟩), (0, fun gs_ => some ⟨91, vPtr (kSlice (kInt .i64)), t24.Params⟩), (0, fun gs_ => some ⟨92, vSlice (kInt .i64), t24.Params⟩), (0, fun gs_ => some ⟨93, vKn 61 [] [⟨vPtr k_code_look, p0⟩], ()⟩), (0, fun gs_ => some ⟨94, vBool, t26⟩), (0, fun gs_ => some ⟨4, vBool, t26⟩)] mixed rfl rfl (fun _ => []) [] rfl (.x (f := fun gs_ => ⟨83, vPtr (kSlice k_aBits), p1.Args⟩) 0 (fun gs_ => [⟨3, vPtr k_aTable, p1⟩]) rfl (fun gs_ => l_fa (o_t rfl) fl_aTable_5 fa39_5 (lt rfl)) (fun gs_ => .b rfl rfl (.nil)) .n (fun _ => rfl) rfl (fun _ _ _ => rfl) (.x (f := fun gs_ => ⟨84, vSlice k_aBits, p1.Args⟩) 0 (fun gs_ => [⟨83, vPtr (kSlice k_aBits), p1.Args⟩]) rfl (fun gs_ => l_ld (o_t rfl) ty37 (lt rfl)) (fun gs_ => .d 0 rfl rfl (.nil)) .n (fun _ => rfl) rfl (fun _ _ _ => rfl) (.x (f := fun gs_ => ⟨85, vPtr k_aCode, p0.c⟩) 0 (fun gs_ => [⟨2, vPtr k_code_look, p0⟩]) rfl (fun gs_ => l_fa (o_t rfl) fl_code_look_0 fa51_0 (lt rfl)) (fun gs_ => .b rfl rfl (.nil)) .n (fun _ => rfl) rfl (fun _ _ _ => rfl) (.x (f := fun gs_ => ⟨86, vPtr (kSlice k_aAct), p0.c.Acts⟩) 0 (fun gs_ => [⟨85, vPtr k_aCode, p0.c⟩]) rfl (fun gs_ => l_fa (o_t rfl) fl_aCode_5 fa30_5 (lt rfl)) (fun gs_ => .d 2 rfl rfl (.nil)) .n (fun _ => rfl) rfl (fun _ _ _ => rfl) (.x (f := fun gs_ => ⟨87, vSlice k_aAct, p0.c.Acts⟩) 0 (fun gs_ => [⟨86, vPtr (kSlice k_aAct), p0.c.Acts⟩]) rfl (fun gs_ => l_ld (o_t rfl) ty26 (lt rfl)) (fun gs_ => .d 3 rfl rfl (.nil)) .n (fun _ => rfl) rfl (fun _ _ _ => rfl) (.x (f := fun gs_ => ⟨88, vPtr (kInt .i64), p1.Default⟩) 0 (fun gs_ => [⟨3, vPtr k_aTable, p1⟩]) rfl (fun gs_ => l_fa (o_t rfl) fl_aTable_4 fa39_4 (lt rfl)) (fun gs_ => .b rfl rfl (.nil)) .n (fun _ => rfl) rfl (fun _ _ _ => rfl) (.x (f := fun gs_ => ⟨89, vInt .i64, p1.Default⟩) 0 (fun gs_ => [⟨88, vPtr (kInt .i64), p1.Default⟩]) rfl (fun gs_ => l_ld (o_t rfl) ty3 (lt rfl)) (fun gs_ => .d 5 rfl rfl (.nil)) .n (fun _ => rfl) rfl (fun _ _ _ => rfl) (.x (f := fun gs_ => ⟨90, vPtr k_aAct, t24⟩) 0 (fun gs_ => [⟨87, vSlice k_aAct, p0.c.Acts⟩, ⟨89, vInt .i64, p1.Default⟩]) rfl (fun gs_ => l_ia (o_t rfl) (o_t rfl) h25 sl26 sz41 (lt rfl)) (fun gs_ => .d 4 rfl rfl (.d 6 rfl rfl (.nil))) .n (fun _ => rfl) rfl (fun _ _ _ => rfl) (.x (f := fun gs_ => ⟨91, vPtr (kSlice (kInt .i64)), t24.Params⟩) 0 (fun gs_ => [⟨90, vPtr k_aAct, t24⟩]) rfl (fun gs_ => l_fa (o_t rfl) fl_aAct_1 fa41_1 (lt rfl)) (fun gs_ => .d 7 rfl rfl (.nil)) .n (fun _ => rfl) rfl (fun _ _ _ => rfl) (.x (f := fun gs_ => ⟨92, vSlice (kInt .i64), t24.Params⟩) 0 (fun gs_ => [⟨91, vPtr (kSlice (kInt .i64)), t24.Params⟩]) rfl (fun gs_ => l_ld (o_t rfl) ty22 (lt rfl)) (fun gs_ => .d 8 rfl rfl (.nil)) .n (fun _ => rfl) rfl (fun _ _ _ => rfl) (.x (f := fun gs_ => ⟨93, vKn 61 [] [⟨vPtr k_code_look, p0⟩], ()⟩) 0 (fun gs_ => [⟨2, vPtr k_code_look, p0⟩]) rfl (fun gs_ => l_mkf (.nil) (.cons (o_t rfl) (.nil)) (lt rfl)) (fun gs_ => .b rfl rfl (.nil)) .n (fun _ => rfl) rfl (fun _ _ _ => rfl) (.x (f := fun gs_ => ⟨94, vBool, t26⟩) 0 (fun gs_ => [⟨84, vSlice k_aBits, p1.Args⟩, ⟨92, vSlice (kInt .i64), t24.Params⟩, ⟨93, vKn 61 [] [⟨vPtr k_code_look, p0⟩], ()⟩]) rfl (fun gs_ => l_call (ok60 p1.Args t24.Params (fun x_ : aBits × Int => code_look_table_1 x_.1 x_.2 p0) _ h27) (.cons (o_t rfl) (.cons (o_t rfl) (.cons (o_clo (o_t rfl) fn61 (fun x_ y h => ok61_0 x_.1 x_.2 p0 _ h)) (.nil)))) (lt rfl)) (fun gs_ => .d 1 rfl rfl (.d 9 rfl rfl (.d 10 rfl rfl (.nil)))) .n (fun _ => rfl) rfl (fun _ _ _ => rfl) (.x (f := fun gs_ => ⟨4, vBool, t26⟩) 0 (fun gs_ => [⟨94, vBool, t26⟩]) rfl (fun gs_ => l_assign (o_t rfl) (lt rfl)) (fun gs_ => .d 11 rfl rfl (.nil)) .n (fun _ => rfl) rfl (fun _ _ _ => rfl) (.nil)))))))))))))) (fun gs_ hgs_ => ?_)
                      refine k_seq ?_
                      cases hp_
                      exact t_ret (k_ret () rfl rfl rfl rfl rfl)
                    · rw [if_pos hb23] at hp_
                      refine t_ift (o_t rfl) hb23 ?_
                      refine t_seq ?_
                      refine t_reg ?_
                      refine st (l_assign (o_b) (lt rfl)) ?_
                      refine r_nil (k_seq ?_)
                      cases hp_
                      exact t_ret (k_tr <| k_ret () rfl rfl rfl rfl rfl)
                  · rw [if_pos hb20] at hp_
                    refine g_n ⟨75, vBool, !t18⟩ rfl rfl (noy_b (b := false) hb20) (lt rfl) ?_
                    refine g_n ⟨75, vBool, !t18⟩ rfl rfl (noy_b (b := false) hb20) (lt rfl) ?_
                    refine g_n ⟨75, vBool, !t18⟩ rfl rfl (noy_b (b := false) hb20) (lt rfl) ?_
                    refine g_n ⟨75, vBool, !t18⟩ rfl rfl (noy_b (b := false) hb20) (lt rfl) ?_
                    refine g_n ⟨75, vBool, !t18⟩ rfl rfl (noy_b (b := false) hb20) (lt rfl) ?_
                    refine g_n ⟨75, vBool, !t18⟩ rfl rfl (noy_b (b := false) hb20) (lt rfl) ?_
                    refine st (l_pickt (o_t rfl) hb20 (o_b) (lt rfl)) ?_
                    refine r_nil (k_seq ?_)
                    refine t_ift (o_t rfl) rfl ?_
                    refine t_seq ?_
                    refine t_reg ?_
                    refine st (l_assign (o_b) (lt rfl)) ?_
                    refine r_nil (k_seq ?_)
                    cases hp_
                    exact t_ret (k_tr <| k_ret () rfl rfl rfl rfl rfl)
                · rw [if_pos hb17] at hp_
                  refine g_n ⟨65, vBool, decide (p1.Size > (4096 : Int))⟩ rfl rfl (noy_b (b := false) hb17) (lt rfl) ?_
                  refine g_n ⟨65, vBool, decide (p1.Size > (4096 : Int))⟩ rfl rfl (noy_b (b := false) hb17) (lt rfl) ?_
                  refine g_n ⟨65, vBool, decide (p1.Size > (4096 : Int))⟩ rfl rfl (noy_b (b := false) hb17) (lt rfl) ?_
                  refine g_n ⟨65, vBool, decide (p1.Size > (4096 : Int))⟩ rfl rfl (noy_b (b := false) hb17) (lt rfl) ?_
                  refine g_n ⟨65, vBool, decide (p1.Size > (4096 : Int))⟩ rfl rfl (noy_b (b := false) hb17) (lt rfl) ?_
                  refine g_n ⟨65, vBool, decide (p1.Size > (4096 : Int))⟩ rfl rfl (noy_b (b := false) hb17) (lt rfl) ?_
                  refine g_n ⟨65, vBool, decide (p1.Size > (4096 : Int))⟩ rfl rfl (noy_b (b := false) hb17) (lt rfl) ?_
                  refine g_n ⟨65, vBool, decide (p1.Size > (4096 : Int))⟩ rfl rfl (noy_b (b := false) hb17) (lt rfl) ?_
                  refine st (l_pickt (o_t rfl) hb17 (o_b) (lt rfl)) ?_
                  refine st (l_move (o_t rfl) (lt rfl)) ?_
                  refine g_n ⟨75, vBool, true⟩ rfl rfl (noy_b (b := false) rfl) (lt rfl) ?_
                  refine g_n ⟨75, vBool, true⟩ rfl rfl (noy_b (b := false) rfl) (lt rfl) ?_
                  refine g_n ⟨75, vBool, true⟩ rfl rfl (noy_b (b := false) rfl) (lt rfl) ?_
                  refine g_n ⟨75, vBool, true⟩ rfl rfl (noy_b (b := false) rfl) (lt rfl) ?_
                  refine g_n ⟨75, vBool, true⟩ rfl rfl (noy_b (b := false) rfl) (lt rfl) ?_
                  refine g_n ⟨75, vBool, true⟩ rfl rfl (noy_b (b := false) rfl) (lt rfl) ?_
                  refine st (l_pickt (o_t rfl) rfl (o_b) (lt rfl)) ?_
                  refine r_nil (k_seq ?_)
                  refine t_ift (o_t rfl) rfl ?_
                  refine t_seq ?_
                  refine t_reg ?_
                  refine st (l_assign (o_b) (lt rfl)) ?_
                  refine r_nil (k_seq ?_)
                  cases hp_
                  exact t_ret (k_tr <| k_ret () rfl rfl rfl rfl rfl)
              · rw [if_pos hb16] at hp_
                refine g_n ⟨60, vBool, decide (p1.Size < (1 : Int))⟩ rfl rfl (noy_b (b := false) hb16) (lt rfl) ?_
                refine g_n ⟨60, vBool, decide (p1.Size < (1 : Int))⟩ rfl rfl (noy_b (b := false) hb16) (lt rfl) ?_
                refine g_n ⟨60, vBool, decide (p1.Size < (1 : Int))⟩ rfl rfl (noy_b (b := false) hb16) (lt rfl) ?_
                refine st (l_pickt (o_t rfl) hb16 (o_b) (lt rfl)) ?_
                refine st (l_move (o_t rfl) (lt rfl)) ?_
                refine g_n ⟨65, vBool, true⟩ rfl rfl (noy_b (b := false) rfl) (lt rfl) ?_
                refine g_n ⟨65, vBool, true⟩ rfl rfl (noy_b (b := false) rfl) (lt rfl) ?_
                refine g_n ⟨65, vBool, true⟩ rfl rfl (noy_b (b := false) rfl) (lt rfl) ?_
                refine g_n ⟨65, vBool, true⟩ rfl rfl (noy_b (b := false) rfl) (lt rfl) ?_
                refine g_n ⟨65, vBool, true⟩ rfl rfl (noy_b (b := false) rfl) (lt rfl) ?_
                refine g_n ⟨65, vBool, true⟩ rfl rfl (noy_b (b := false) rfl) (lt rfl) ?_
                refine g_n ⟨65, vBool, true⟩ rfl rfl (noy_b (b := false) rfl) (lt rfl) ?_
                refine g_n ⟨65, vBool, true⟩ rfl rfl (noy_b (b := false) rfl) (lt rfl) ?_
                refine st (l_pickt (o_t rfl) rfl (o_b) (lt rfl)) ?_
                refine st (l_move (o_t rfl) (lt rfl)) ?_
                refine g_n ⟨75, vBool, true⟩ rfl rfl (noy_b (b := false) rfl) (lt rfl) ?_
                refine g_n ⟨75, vBool, true⟩ rfl rfl (noy_b (b := false) rfl) (lt rfl) ?_
                refine g_n ⟨75, vBool, true⟩ rfl rfl (noy_b (b := false) rfl) (lt rfl) ?_
                refine g_n ⟨75, vBool, true⟩ rfl rfl (noy_b (b := false) rfl) (lt rfl) ?_
                refine g_n ⟨75, vBool, true⟩ rfl rfl (noy_b (b := false) rfl) (lt rfl) ?_
                refine g_n ⟨75, vBool, true⟩ rfl rfl (noy_b (b := false) rfl) (lt rfl) ?_
                refine st (l_pickt (o_t rfl) rfl (o_b) (lt rfl)) ?_
                refine r_nil (k_seq ?_)
                refine t_ift (o_t rfl) rfl ?_
                refine t_seq ?_
                refine t_reg ?_
                refine st (l_assign (o_b) (lt rfl)) ?_
                refine r_nil (k_seq ?_)
                cases hp_
                exact t_ret (k_tr <| k_ret () rfl rfl rfl rfl rfl)
            · rw [if_pos hb15] at hp_
              refine t_ift (o_t rfl) hb15 ?_
              refine t_seq ?_
              refine t_reg ?_
              refine st (l_assign (o_b) (lt rfl)) ?_
              refine r_nil (k_seq ?_)
              cases hp_
              exact t_ret (k_tr <| k_ret () rfl rfl rfl rfl rfl)
          · rw [if_pos hb12] at hp_
            refine g_n ⟨50, vBool, !t10⟩ rfl rfl (noy_b (b := false) hb12) (lt rfl) ?_
            refine g_n ⟨50, vBool, !t10⟩ rfl rfl (noy_b (b := false) hb12) (lt rfl) ?_
            refine g_n ⟨50, vBool, !t10⟩ rfl rfl (noy_b (b := false) hb12) (lt rfl) ?_
            refine g_n ⟨50, vBool, !t10⟩ rfl rfl (noy_b (b := false) hb12) (lt rfl) ?_
            refine g_n ⟨50, vBool, !t10⟩ rfl rfl (noy_b (b := false) hb12) (lt rfl) ?_
            refine st (l_pickt (o_t rfl) hb12 (o_b) (lt rfl)) ?_
            refine r_nil (k_seq ?_)
            refine t_ift (o_t rfl) rfl ?_
            refine t_seq ?_
            refine t_reg ?_
            refine st (l_assign (o_b) (lt rfl)) ?_
            refine r_nil (k_seq ?_)
            cases hp_
            exact t_ret (k_tr <| k_ret () rfl rfl rfl rfl rfl)
        · rw [if_pos hb9] at hp_
          refine g_n ⟨43, vBool, decide (s1_ > (1 : Int))⟩ rfl rfl (noy_b (b := false) hb9) (lt rfl) ?_
          refine g_n ⟨43, vBool, decide (s1_ > (1 : Int))⟩ rfl rfl (noy_b (b := false) hb9) (lt rfl) ?_
          refine g_n ⟨43, vBool, decide (s1_ > (1 : Int))⟩ rfl rfl (noy_b (b := false) hb9) (lt rfl) ?_
          refine g_n ⟨43, vBool, decide (s1_ > (1 : Int))⟩ rfl rfl (noy_b (b := false) hb9) (lt rfl) ?_
          refine g_n ⟨43, vBool, decide (s1_ > (1 : Int))⟩ rfl rfl (noy_b (b := false) hb9) (lt rfl) ?_
          refine st (l_pickt (o_t rfl) hb9 (o_b) (lt rfl)) ?_
          refine st (l_move (o_t rfl) (lt rfl)) ?_
          refine g_n ⟨50, vBool, true⟩ rfl rfl (noy_b (b := false) rfl) (lt rfl) ?_
          refine g_n ⟨50, vBool, true⟩ rfl rfl (noy_b (b := false) rfl) (lt rfl) ?_
          refine g_n ⟨50, vBool, true⟩ rfl rfl (noy_b (b := false) rfl) (lt rfl) ?_
          refine g_n ⟨50, vBool, true⟩ rfl rfl (noy_b (b := false) rfl) (lt rfl) ?_
          refine g_n ⟨50, vBool, true⟩ rfl rfl (noy_b (b := false) rfl) (lt rfl) ?_
          refine st (l_pickt (o_t rfl) rfl (o_b) (lt rfl)) ?_
          refine r_nil (k_seq ?_)
          refine t_ift (o_t rfl) rfl ?_
          refine t_seq ?_
          refine t_reg ?_
          refine st (l_assign (o_b) (lt rfl)) ?_
          refine r_nil (k_seq ?_)
          cases hp_
          exact t_ret (k_tr <| k_ret () rfl rfl rfl rfl rfl)
      · rw [if_pos hb8] at hp_
        refine g_n ⟨39, vBool, (p1.Kinds.length : Int) != (p1.Keys.length : Int)⟩ rfl rfl (noy_b (b := false) hb8) (lt rfl) ?_
        refine g_n ⟨39, vBool, (p1.Kinds.length : Int) != (p1.Keys.length : Int)⟩ rfl rfl (noy_b (b := false) hb8) (lt rfl) ?_
        refine st (l_pickt (o_t rfl) hb8 (o_b) (lt rfl)) ?_
        refine st (l_move (o_t rfl) (lt rfl)) ?_
        refine g_n ⟨43, vBool, true⟩ rfl rfl (noy_b (b := false) rfl) (lt rfl) ?_
        refine g_n ⟨43, vBool, true⟩ rfl rfl (noy_b (b := false) rfl) (lt rfl) ?_
        refine g_n ⟨43, vBool, true⟩ rfl rfl (noy_b (b := false) rfl) (lt rfl) ?_
        refine g_n ⟨43, vBool, true⟩ rfl rfl (noy_b (b := false) rfl) (lt rfl) ?_
        refine g_n ⟨43, vBool, true⟩ rfl rfl (noy_b (b := false) rfl) (lt rfl) ?_
        refine st (l_pickt (o_t rfl) rfl (o_b) (lt rfl)) ?_
        refine st (l_move (o_t rfl) (lt rfl)) ?_
        refine g_n ⟨50, vBool, true⟩ rfl rfl (noy_b (b := false) rfl) (lt rfl) ?_
        refine g_n ⟨50, vBool, true⟩ rfl rfl (noy_b (b := false) rfl) (lt rfl) ?_
        refine g_n ⟨50, vBool, true⟩ rfl rfl (noy_b (b := false) rfl) (lt rfl) ?_
        refine g_n ⟨50, vBool, true⟩ rfl rfl (noy_b (b := false) rfl) (lt rfl) ?_
        refine g_n ⟨50, vBool, true⟩ rfl rfl (noy_b (b := false) rfl) (lt rfl) ?_
        refine st (l_pickt (o_t rfl) rfl (o_b) (lt rfl)) ?_
        refine r_nil (k_seq ?_)
        refine t_ift (o_t rfl) rfl ?_
        refine t_seq ?_
        refine t_reg ?_
        refine st (l_assign (o_b) (lt rfl)) ?_
        refine r_nil (k_seq ?_)
        cases hp_
        exact t_ret (k_tr <| k_ret () rfl rfl rfl rfl rfl)
    · rw [if_pos hb7] at hp_
      refine g_n ⟨30, vBool, decide ((p1.Keys.length : Int) > (64 : Int))⟩ rfl rfl (noy_b (b := false) hb7) (lt rfl) ?_
      refine g_n ⟨30, vBool, decide ((p1.Keys.length : Int) > (64 : Int))⟩ rfl rfl (noy_b (b := false) hb7) (lt rfl) ?_
      refine g_n ⟨30, vBool, decide ((p1.Keys.length : Int) > (64 : Int))⟩ rfl rfl (noy_b (b := false) hb7) (lt rfl) ?_
      refine g_n ⟨30, vBool, decide ((p1.Keys.length : Int) > (64 : Int))⟩ rfl rfl (noy_b (b := false) hb7) (lt rfl) ?_
      refine g_n ⟨30, vBool, decide ((p1.Keys.length : Int) > (64 : Int))⟩ rfl rfl (noy_b (b := false) hb7) (lt rfl) ?_
      refine g_n ⟨30, vBool, decide ((p1.Keys.length : Int) > (64 : Int))⟩ rfl rfl (noy_b (b := false) hb7) (lt rfl) ?_
      refine g_n ⟨30, vBool, decide ((p1.Keys.length : Int) > (64 : Int))⟩ rfl rfl (noy_b (b := false) hb7) (lt rfl) ?_
      refine st (l_pickt (o_t rfl) hb7 (o_b) (lt rfl)) ?_
      refine st (l_move (o_t rfl) (lt rfl)) ?_
      refine g_n ⟨39, vBool, true⟩ rfl rfl (noy_b (b := false) rfl) (lt rfl) ?_
      refine g_n ⟨39, vBool, true⟩ rfl rfl (noy_b (b := false) rfl) (lt rfl) ?_
      refine st (l_pickt (o_t rfl) rfl (o_b) (lt rfl)) ?_
      refine st (l_move (o_t rfl) (lt rfl)) ?_
      refine g_n ⟨43, vBool, true⟩ rfl rfl (noy_b (b := false) rfl) (lt rfl) ?_
      refine g_n ⟨43, vBool, true⟩ rfl rfl (noy_b (b := false) rfl) (lt rfl) ?_
      refine g_n ⟨43, vBool, true⟩ rfl rfl (noy_b (b := false) rfl) (lt rfl) ?_
      refine g_n ⟨43, vBool, true⟩ rfl rfl (noy_b (b := false) rfl) (lt rfl) ?_
      refine g_n ⟨43, vBool, true⟩ rfl rfl (noy_b (b := false) rfl) (lt rfl) ?_
      refine st (l_pickt (o_t rfl) rfl (o_b) (lt rfl)) ?_
      refine st (l_move (o_t rfl) (lt rfl)) ?_
      refine g_n ⟨50, vBool, true⟩ rfl rfl (noy_b (b := false) rfl) (lt rfl) ?_
      refine g_n ⟨50, vBool, true⟩ rfl rfl (noy_b (b := false) rfl) (lt rfl) ?_
      refine g_n ⟨50, vBool, true⟩ rfl rfl (noy_b (b := false) rfl) (lt rfl) ?_
      refine g_n ⟨50, vBool, true⟩ rfl rfl (noy_b (b := false) rfl) (lt rfl) ?_
      refine g_n ⟨50, vBool, true⟩ rfl rfl (noy_b (b := false) rfl) (lt rfl) ?_
      refine st (l_pickt (o_t rfl) rfl (o_b) (lt rfl)) ?_
      refine r_nil (k_seq ?_)
      refine t_ift (o_t rfl) rfl ?_
      refine t_seq ?_
      refine t_reg ?_
      refine st (l_assign (o_b) (lt rfl)) ?_
      refine r_nil (k_seq ?_)
      cases hp_
      exact t_ret (k_tr <| k_ret () rfl rfl rfl rfl rfl)
-- pointsman/code.Check$3
theorem ok24_0 (t : aTable) (p1 : code_look) (y_ : Bool) (hp_ : code_Check_3 t p1 = some y_) : FP Tryz.prog 24 [⟨(k_aTable).v, t⟩, ⟨vPtr k_code_look, p1⟩] vBool y_ := by
  unfold code_Check_3 at hp_
  refine fc_of 8 Tryz.func24 rfl fn24 rfl (Nat.le_of_ble_eq_true rfl) fun I_ w_ F_ => ?_
  refine t_seq ?_
  refine t_reg ?_
  refine st (l_box (o_t rfl) (lt rfl)) ?_
  refine st (l_assign (o_b) (lt rfl)) ?_
  refine r_nil (k_seq ?_)
  refine t_seq ?_
  refine t_reg ?_
  refine st (l_ld (o_t rfl) ty51 (lt rfl)) ?_
  refine st (l_ld (o_t rfl) ty39 (lt rfl)) ?_
  obtain ⟨t1, h2, hp_⟩ := bs hp_
  refine st (l_call (ok25 p1 t _ h2) (.cons (o_t rfl) (.cons (o_t rfl) (.nil))) (lt rfl)) ?_
  refine st (l_not (o_t rfl) (lt rfl)) ?_
  refine st (l_assign (o_t rfl) (lt rfl)) ?_
  refine r_nil (k_seq ?_)
  cases hp_
  exact t_ret (k_ret () rfl rfl rfl rfl rfl)
-- slices.IndexFunc[[]pointsman/api.Table,pointsman/api.Table]
theorem ok58 (s : List aTable) (f : aTable → Option Bool) (y_ : Int) (hp_ : slices_IndexFunc_49 s f = some y_) : FP Tryz.prog 58 [⟨vSlice k_aTable, s⟩, ⟨vClo Tryz.prog (fun x : aTable => [⟨(k_aTable).v, x⟩]) vBool, f⟩] (vInt .i64) y_ := by
  unfold slices_IndexFunc_49 at hp_
  refine fc_of 19 Tryz.func58 rfl fn58 rfl (Nat.le_of_ble_eq_true rfl) fun I_ w_ F_ => ?_
  refine t_seq ?_
  refine t_reg ?_
  refine st (l_assign (o_i) (lt rfl)) ?_
  refine r_nil (k_seq ?_)
  refine t_seq ?_
  refine t_seq ?_
  refine t_reg ?_
  refine st (l_move (o_t rfl) (lt rfl)) ?_
  refine st (l_lens (o_t rfl) sl27 (lt rfl)) ?_
  refine st (l_move (o_i) (lt rfl)) ?_
  refine r_nil (k_seq ?_)
  obtain ⟨res1_, hl1_0, hx1_⟩ := bs hp_
  clear hp_
  refine t_sub (Γ' := [⟨8, vInt .i64, (0 : Int)⟩, ⟨0, vSlice k_aTable, s⟩, ⟨1, vClo Tryz.prog (fun x : aTable => [⟨(k_aTable).v, x⟩]) vBool, f⟩, ⟨7, vInt .i64, (s.length : Int)⟩]) (Sub.cons rfl (Sub.cons rfl (Sub.cons rfl (Sub.cons rfl (Sub.nil _))))) ?_
  refine t_bloop (β := Nat × Int) (σ := Unit) (fun x_ => [⟨8, vInt .i64, x_.2⟩, ⟨0, vSlice k_aTable, s⟩, ⟨1, vClo Tryz.prog (fun x : aTable => [⟨(k_aTable).v, x⟩]) vBool, f⟩, ⟨7, vInt .i64, (s.length : Int)⟩]) (fun x_ => []) (fun x_ => slices_IndexFunc_49.l1 x_.1 s f x_.2 = some res1_) (fun x_ => x_.1) (fun x_ => []) (fun x_ => []) (fun x_ => res1_ = .go x_) ?_ ?_ ((((s.length : Int) - (0 : Int)).toNat + 1), (0 : Int)) hl1_0
  · rintro ⟨k1_, v8_1⟩ hl1_
    rcases k1_ with _ | k1_
    · exact absurd (show none = some res1_ from hl1_) (by simp)
    replace hl1_ : slices_IndexFunc_49.l1 (k1_ + 1) s f v8_1 = some res1_ := hl1_
    rw [slices_IndexFunc_49.l1.eq_2] at hl1_
    show Tr Tryz.prog _ [⟨8, vInt .i64, v8_1⟩, ⟨0, vSlice k_aTable, s⟩, ⟨1, vClo Tryz.prog (fun x : aTable => [⟨(k_aTable).v, x⟩]) vBool, f⟩, ⟨7, vInt .i64, (s.length : Int)⟩] [] _ _
    refine t_seq ?_
    refine t_reg ?_
    refine st (l_cmp (o_t rfl) (o_t rfl) .lss (lt rfl)) ?_
    refine r_nil (k_seq ?_)
    refine t_seq ?_
    rcases bt (decide (v8_1 < (s.length : Int))) with hb1 | hb1
    · rw [if_neg (nt hb1)] at hl1_
      refine t_iff (o_t rfl) hb1 ?_
      exact t_exit (k_te <| k_te <| k_be <| k_brk () (Option.some.inj hl1_).symm (Sub.nil _) rfl)
    · rw [if_pos hb1] at hl1_
      refine t_ift (o_t rfl) hb1 ?_
      refine t_skip (k_seq ?_)
      refine t_seq ?_
      refine t_blk ?_
      refine t_seq ?_
      refine t_reg ?_
      refine st (l_move (o_t rfl) (lt rfl)) ?_
      refine st (l_assign (o_t rfl) (lt rfl)) ?_
      refine r_nil (k_seq ?_)
      refine t_seq ?_
      refine t_reg ?_
      refine st (l_move (o_t rfl) (lt rfl)) ?_
      refine st (l_move (o_t rfl) (lt rfl)) ?_
      refine st (l_move (o_t rfl) (lt rfl)) ?_
      obtain ⟨t2, h3, hl1_⟩ := bs hl1_
      refine st (l_ia (o_t rfl) (o_t rfl) h3 sl27 sz39 (lt rfl)) ?_
      refine st (l_ld (o_t rfl) ty39 (lt rfl)) ?_
      obtain ⟨t4, h5, hl1_⟩ := bs hl1_
      refine st (l_callc (o_t rfl) (x := t2) (.cons (o_t rfl) (.nil)) h5 (lt rfl)) ?_
      refine r_nil (k_seq ?_)
      rcases bt (t4) with hb6 | hb6
      · rw [if_neg (nt hb6)] at hl1_
        refine t_iff (o_t rfl) hb6 ?_
        refine t_skip (k_bn <| k_seq ?_)
        refine t_reg ?_
        refine st (l_bin (o_t rfl) (o_i) .add (lt rfl)) ?_
        refine st (l_move (o_t rfl) (lt rfl)) ?_
        exact r_nil (k_again (k1_, IntKind.wrap .i64 (v8_1 + (1 : Int))) hl1_ (Nat.lt_succ_self _) (Sub.cons rfl (Sub.cons rfl (Sub.cons rfl (Sub.cons rfl (Sub.nil _))))) rfl)
      · rw [if_pos hb6] at hl1_
        refine t_ift (o_t rfl) hb6 ?_
        refine t_seq ?_
        refine t_reg ?_
        refine st (l_move (o_t rfl) (lt rfl)) ?_
        refine st (l_assign (o_t rfl) (lt rfl)) ?_
        refine r_nil (k_seq ?_)
        cases hl1_
        dsimp only [Ex.elim] at hx1_
        cases hx1_
        exact t_ret (k_br <| k_tr <| k_tr <| k_br <| k_brk_r <| k_tr <| k_ret () rfl rfl rfl rfl rfl)
  · intro s1_ hs1_
    replace hs1_ : res1_ = .go s1_ := hs1_
    subst hs1_
    dsimp only [Ex.elim] at hx1_
    have hp_ := hx1_
    clear hx1_
    show Kx _ [] [] _ _
    refine k_seq ?_
    refine t_seq ?_
    refine t_reg ?_
    refine st (l_assign (o_i) (lt rfl)) ?_
    refine r_nil (k_seq ?_)
    cases hp_
    exact t_ret (k_ret () rfl rfl rfl rfl rfl)
-- slices.ContainsFunc[[]pointsman/api.Table,pointsman/api.Table]
theorem ok23 (s : List aTable) (f : aTable → Option Bool) (y_ : Bool) (hp_ : slices_ContainsFunc_17 s f = some y_) : FP Tryz.prog 23 [⟨vSlice k_aTable, s⟩, ⟨vClo Tryz.prog (fun x : aTable => [⟨(k_aTable).v, x⟩]) vBool, f⟩] vBool y_ := by
  unfold slices_ContainsFunc_17 at hp_
  refine fc_of 9 Tryz.func23 rfl fn23 rfl (Nat.le_of_ble_eq_true rfl) fun I_ w_ F_ => ?_
  refine t_seq ?_
  refine t_reg ?_
  refine st (l_assign (o_b) (lt rfl)) ?_
  refine r_nil (k_seq ?_)
  refine t_seq ?_
  refine t_reg ?_
  refine st (l_move (o_t rfl) (lt rfl)) ?_
  refine st (l_move (o_t rfl) (lt rfl)) ?_
  obtain ⟨t1, h2, hp_⟩ := bs hp_
  refine st (l_call (ok58 s f _ h2) (.cons (o_t rfl) (.cons (o_t rfl) (.nil))) (lt rfl)) ?_
  refine st (l_cmp (o_t rfl) (o_i) .geq (lt rfl)) ?_
  refine st (l_assign (o_t rfl) (lt rfl)) ?_
  refine r_nil (k_seq ?_)
  cases hp_
  exact t_ret (k_ret () rfl rfl rfl rfl rfl)
-- pointsman/code.Check$4
theorem ok27_0 (a : aAct) (p1 : code_look) (y_ : Bool) (hp_ : code_Check_4 a p1 = some y_) : FP Tryz.prog 27 [⟨(k_aAct).v, a⟩, ⟨vPtr k_code_look, p1⟩] vBool y_ := by
  unfold code_Check_4 at hp_
  refine fc_of 9 Tryz.func27 rfl fn27 rfl (Nat.le_of_ble_eq_true rfl) fun I_ w_ F_ => ?_
  refine t_seq ?_
  refine t_reg ?_
  refine st (l_box (o_t rfl) (lt rfl)) ?_
  refine st (l_assign (o_b) (lt rfl)) ?_
  refine r_nil (k_seq ?_)
  refine t_seq ?_
  refine t_reg ?_
  refine st (l_ld (o_t rfl) ty51 (lt rfl)) ?_
  refine st (l_fa (o_t rfl) fl_aAct_2 fa41_2 (lt rfl)) ?_
  refine st (l_ld (o_t rfl) ty25 (lt rfl)) ?_
  obtain ⟨t1, h2, hp_⟩ := bs hp_
  refine st (l_call (ok28 p1 a.Code false false _ h2) (.cons (o_t rfl) (.cons (o_t rfl) (.cons (o_b) (.cons (o_b) (.nil))))) (lt rfl)) ?_
  refine st (l_not (o_t rfl) (lt rfl)) ?_
  refine st (l_assign (o_t rfl) (lt rfl)) ?_
  refine r_nil (k_seq ?_)
  cases hp_
  exact t_ret (k_ret () rfl rfl rfl rfl rfl)
-- slices.IndexFunc[[]pointsman/api.Act,pointsman/api.Act]
theorem ok62 (s : List aAct) (f : aAct → Option Bool) (y_ : Int) (hp_ : slices_IndexFunc_49 s f = some y_) : FP Tryz.prog 62 [⟨vSlice k_aAct, s⟩, ⟨vClo Tryz.prog (fun x : aAct => [⟨(k_aAct).v, x⟩]) vBool, f⟩] (vInt .i64) y_ := by
  unfold slices_IndexFunc_49 at hp_
  refine fc_of 19 Tryz.func62 rfl fn62 rfl (Nat.le_of_ble_eq_true rfl) fun I_ w_ F_ => ?_
  refine t_seq ?_
  refine t_reg ?_
  refine st (l_assign (o_i) (lt rfl)) ?_
  refine r_nil (k_seq ?_)
  refine t_seq ?_
  refine t_seq ?_
  refine t_reg ?_
  refine st (l_move (o_t rfl) (lt rfl)) ?_
  refine st (l_lens (o_t rfl) sl26 (lt rfl)) ?_
  refine st (l_move (o_i) (lt rfl)) ?_
  refine r_nil (k_seq ?_)
  obtain ⟨res1_, hl1_0, hx1_⟩ := bs hp_
  clear hp_
  refine t_sub (Γ' := [⟨8, vInt .i64, (0 : Int)⟩, ⟨0, vSlice k_aAct, s⟩, ⟨1, vClo Tryz.prog (fun x : aAct => [⟨(k_aAct).v, x⟩]) vBool, f⟩, ⟨7, vInt .i64, (s.length : Int)⟩]) (Sub.cons rfl (Sub.cons rfl (Sub.cons rfl (Sub.cons rfl (Sub.nil _))))) ?_
  refine t_bloop (β := Nat × Int) (σ := Unit) (fun x_ => [⟨8, vInt .i64, x_.2⟩, ⟨0, vSlice k_aAct, s⟩, ⟨1, vClo Tryz.prog (fun x : aAct => [⟨(k_aAct).v, x⟩]) vBool, f⟩, ⟨7, vInt .i64, (s.length : Int)⟩]) (fun x_ => []) (fun x_ => slices_IndexFunc_49.l1 x_.1 s f x_.2 = some res1_) (fun x_ => x_.1) (fun x_ => []) (fun x_ => []) (fun x_ => res1_ = .go x_) ?_ ?_ ((((s.length : Int) - (0 : Int)).toNat + 1), (0 : Int)) hl1_0
  · rintro ⟨k1_, v8_1⟩ hl1_
    rcases k1_ with _ | k1_
    · exact absurd (show none = some res1_ from hl1_) (by simp)
    replace hl1_ : slices_IndexFunc_49.l1 (k1_ + 1) s f v8_1 = some res1_ := hl1_
    rw [slices_IndexFunc_49.l1.eq_2] at hl1_
    show Tr Tryz.prog _ [⟨8, vInt .i64, v8_1⟩, ⟨0, vSlice k_aAct, s⟩, ⟨1, vClo Tryz.prog (fun x : aAct => [⟨(k_aAct).v, x⟩]) vBool, f⟩, ⟨7, vInt .i64, (s.length : Int)⟩] [] _ _
    refine t_seq ?_
    refine t_reg ?_
    refine st (l_cmp (o_t rfl) (o_t rfl) .lss (lt rfl)) ?_
    refine r_nil (k_seq ?_)
    refine t_seq ?_
    rcases bt (decide (v8_1 < (s.length : Int))) with hb1 | hb1
    · rw [if_neg (nt hb1)] at hl1_
      refine t_iff (o_t rfl) hb1 ?_
      exact t_exit (k_te <| k_te <| k_be <| k_brk () (Option.some.inj hl1_).symm (Sub.nil _) rfl)
    · rw [if_pos hb1] at hl1_
      refine t_ift (o_t rfl) hb1 ?_
      refine t_skip (k_seq ?_)
      refine t_seq ?_
      refine t_blk ?_
      refine t_seq ?_
      refine t_reg ?_
      refine st (l_move (o_t rfl) (lt rfl)) ?_
      refine st (l_assign (o_t rfl) (lt rfl)) ?_
      refine r_nil (k_seq ?_)
      refine t_seq ?_
      refine t_reg ?_
      refine st (l_move (o_t rfl) (lt rfl)) ?_
      refine st (l_move (o_t rfl) (lt rfl)) ?_
      refine st (l_move (o_t rfl) (lt rfl)) ?_
      obtain ⟨t2, h3, hl1_⟩ := bs hl1_
      refine st (l_ia (o_t rfl) (o_t rfl) h3 sl26 sz41 (lt rfl)) ?_
      refine st (l_ld (o_t rfl) ty41 (lt rfl)) ?_
      obtain ⟨t4, h5, hl1_⟩ := bs hl1_
      refine st (l_callc (o_t rfl) (x := t2) (.cons (o_t rfl) (.nil)) h5 (lt rfl)) ?_
      refine r_nil (k_seq ?_)
      rcases bt (t4) with hb6 | hb6
      · rw [if_neg (nt hb6)] at hl1_
        refine t_iff (o_t rfl) hb6 ?_
        refine t_skip (k_bn <| k_seq ?_)
        refine t_reg ?_
        refine st (l_bin (o_t rfl) (o_i) .add (lt rfl)) ?_
        refine st (l_move (o_t rfl) (lt rfl)) ?_
        exact r_nil (k_again (k1_, IntKind.wrap .i64 (v8_1 + (1 : Int))) hl1_ (Nat.lt_succ_self _) (Sub.cons rfl (Sub.cons rfl (Sub.cons rfl (Sub.cons rfl (Sub.nil _))))) rfl)
      · rw [if_pos hb6] at hl1_
        refine t_ift (o_t rfl) hb6 ?_
        refine t_seq ?_
        refine t_reg ?_
        refine st (l_move (o_t rfl) (lt rfl)) ?_
        refine st (l_assign (o_t rfl) (lt rfl)) ?_
        refine r_nil (k_seq ?_)
        cases hl1_
        dsimp only [Ex.elim] at hx1_
        cases hx1_
        exact t_ret (k_br <| k_tr <| k_tr <| k_br <| k_brk_r <| k_tr <| k_ret () rfl rfl rfl rfl rfl)
  · intro s1_ hs1_
    replace hs1_ : res1_ = .go s1_ := hs1_
    subst hs1_
    dsimp only [Ex.elim] at hx1_
    have hp_ := hx1_
    clear hx1_
    show Kx _ [] [] _ _
    refine k_seq ?_
    refine t_seq ?_
    refine t_reg ?_
    refine st (l_assign (o_i) (lt rfl)) ?_
    refine r_nil (k_seq ?_)
    cases hp_
    exact t_ret (k_ret () rfl rfl rfl rfl rfl)
-- slices.ContainsFunc[[]pointsman/api.Act,pointsman/api.Act]
theorem ok26 (s : List aAct) (f : aAct → Option Bool) (y_ : Bool) (hp_ : slices_ContainsFunc_17 s f = some y_) : FP Tryz.prog 26 [⟨vSlice k_aAct, s⟩, ⟨vClo Tryz.prog (fun x : aAct => [⟨(k_aAct).v, x⟩]) vBool, f⟩] vBool y_ := by
  unfold slices_ContainsFunc_17 at hp_
  refine fc_of 9 Tryz.func26 rfl fn26 rfl (Nat.le_of_ble_eq_true rfl) fun I_ w_ F_ => ?_
  refine t_seq ?_
  refine t_reg ?_
  refine st (l_assign (o_b) (lt rfl)) ?_
  refine r_nil (k_seq ?_)
  refine t_seq ?_
  refine t_reg ?_
  refine st (l_move (o_t rfl) (lt rfl)) ?_
  refine st (l_move (o_t rfl) (lt rfl)) ?_
  obtain ⟨t1, h2, hp_⟩ := bs hp_
  refine st (l_call (ok62 s f _ h2) (.cons (o_t rfl) (.cons (o_t rfl) (.nil))) (lt rfl)) ?_
  refine st (l_cmp (o_t rfl) (o_i) .geq (lt rfl)) ?_
  refine st (l_assign (o_t rfl) (lt rfl)) ?_
  refine r_nil (k_seq ?_)
  cases hp_
  exact t_ret (k_ret () rfl rfl rfl rfl rfl)
-- pointsman/code.Check
theorem ok5 (p0 : aCode) (y_ : Int) (hp_ : code_Check p0 = some y_) : FP Tryz.prog 5 [⟨(k_aCode).v, p0⟩] (vInt .i64) y_ := by
  unfold code_Check at hp_
  refine fc_of 115 Tryz.func5 rfl fn5 rfl (Nat.le_of_ble_eq_true rfl) fun I_ w_ F_ => ?_
  refine t_seq ?_
  refine t_reg ?_
  refine st (l_box (o_t rfl) (lt rfl)) ?_
  refine st (l_assign (o_i) (lt rfl)) ?_
  refine r_nil (k_seq ?_)
  refine t_seq ?_
  refine t_reg ?_
  refine st (l_ld (o_t rfl) ty30 (lt rfl)) ?_
  refine st (l_build zr51 (.cons (o_t rfl) fl_code_look_0 ft51_0 (.nil)) rfl stb51 (lt rfl)) ?_
  refine r_als zr51 (o_t rfl) rfl sz51 (lt rfl) ?_
  refine r_nil (k_seq ?_)
  refine t_seq ?_
  refine t_reg ?_
  refine st (l_fa (o_t rfl) fl_aCode_4 fa30_4 (lt rfl)) ?_
  refine st (l_ld (o_t rfl) ty25 (lt rfl)) ?_
  refine st (l_lens (o_t rfl) sl25 (lt rfl)) ?_
  refine st (l_assign (o_t rfl) (lt rfl)) ?_
  refine r_nil (k_seq ?_)
  refine t_seq ?_
  refine t_seq ?_
  refine t_reg ?_
  refine st (l_fa (o_t rfl) fl_aCode_5 fa30_5 (lt rfl)) ?_
  refine st (l_ld (o_t rfl) ty26 (lt rfl)) ?_
  refine st (l_lens (o_t rfl) sl26 (lt rfl)) ?_
  refine st (l_move (o_i) (lt rfl)) ?_
  refine r_nil (k_seq ?_)
  obtain ⟨res1_, hl1_0, hx1_⟩ := bs hp_
  clear hp_
  refine t_sub (Γ' := [⟨4, vInt .i64, (p0.Main.length : Int)⟩, ⟨19, vInt .i64, (0 : Int)⟩, ⟨1, vPtr k_aCode, p0⟩, ⟨3, vPtr k_code_look, (code_look.mk p0)⟩, ⟨17, vSlice k_aAct, p0.Acts⟩, ⟨18, vInt .i64, (p0.Acts.length : Int)⟩]) (Sub.cons rfl (Sub.cons rfl (Sub.cons rfl (Sub.cons rfl (Sub.cons rfl (Sub.cons rfl (Sub.nil _))))))) ?_
  refine t_bloop (β := Nat × Int × Int) (σ := Int) (fun x_ => [⟨4, vInt .i64, x_.2.1⟩, ⟨19, vInt .i64, x_.2.2⟩, ⟨1, vPtr k_aCode, p0⟩, ⟨3, vPtr k_code_look, (code_look.mk p0)⟩, ⟨17, vSlice k_aAct, p0.Acts⟩, ⟨18, vInt .i64, (p0.Acts.length : Int)⟩]) (fun x_ => []) (fun x_ => code_Check.l1 x_.1 p0 x_.2.1 x_.2.2 = some res1_) (fun x_ => x_.1) (fun x_ => [⟨1, vPtr k_aCode, p0⟩, ⟨3, vPtr k_code_look, (code_look.mk p0)⟩, ⟨4, vInt .i64, x_⟩]) (fun x_ => []) (fun x_ => res1_ = x_) ?_ ?_ ((((p0.Acts.length : Int) - (0 : Int)).toNat + 1), (p0.Main.length : Int), (0 : Int)) hl1_0
  · rintro ⟨k1_, v4_1, v19_1⟩ hl1_
    rcases k1_ with _ | k1_
    · exact absurd (show none = some res1_ from hl1_) (by simp)
    replace hl1_ : code_Check.l1 (k1_ + 1) p0 v4_1 v19_1 = some res1_ := hl1_
    rw [code_Check.l1.eq_2] at hl1_
    show Tr Tryz.prog _ [⟨4, vInt .i64, v4_1⟩, ⟨19, vInt .i64, v19_1⟩, ⟨1, vPtr k_aCode, p0⟩, ⟨3, vPtr k_code_look, (code_look.mk p0)⟩, ⟨17, vSlice k_aAct, p0.Acts⟩, ⟨18, vInt .i64, (p0.Acts.length : Int)⟩] [] _ _
    refine t_seq ?_
    refine t_reg ?_
    refine st (l_cmp (o_t rfl) (o_t rfl) .lss (lt rfl)) ?_
    refine r_nil (k_seq ?_)
    refine t_seq ?_
    rcases bt (decide (v19_1 < (p0.Acts.length : Int))) with hb1 | hb1
    · rw [if_neg (nt hb1)] at hl1_
      refine t_iff (o_t rfl) hb1 ?_
      exact t_exit (k_te <| k_te <| k_be <| k_brk v4_1 (Option.some.inj hl1_).symm (Sub.cons rfl (Sub.cons rfl (Sub.cons rfl (Sub.nil _)))) rfl)
    · rw [if_pos hb1] at hl1_
      refine t_ift (o_t rfl) hb1 ?_
      refine t_skip (k_seq ?_)
      refine t_seq ?_
      refine t_blk ?_
      refine t_seq ?_
      refine t_reg ?_
      obtain ⟨t2, h3, hl1_⟩ := bs hl1_
      refine st (l_ia (o_t rfl) (o_t rfl) h3 sl26 sz41 (lt rfl)) ?_
      refine st (l_ld (o_t rfl) ty41 (lt rfl)) ?_
      refine r_als zr41 (o_t rfl) rfl sz41 (lt rfl) ?_
      refine r_nil (k_seq ?_)
      refine t_reg ?_
      refine st (l_move (o_t rfl) (lt rfl)) ?_
      refine st (l_fa (o_t rfl) fl_aAct_2 fa41_2 (lt rfl)) ?_
      refine st (l_ld (o_t rfl) ty25 (lt rfl)) ?_
      refine st (l_lens (o_t rfl) sl25 (lt rfl)) ?_
      refine st (l_bin (o_t rfl) (o_t rfl) .add (lt rfl)) ?_
      refine st (l_assign (o_t rfl) (lt rfl)) ?_
      refine r_nil (k_bn <| k_seq ?_)
      refine t_reg ?_
      refine st (l_bin (o_t rfl) (o_i) .add (lt rfl)) ?_
      refine st (l_move (o_t rfl) (lt rfl)) ?_
      exact r_nil (k_again (k1_, IntKind.wrap .i64 (v4_1 + (t2.Code.length : Int)), IntKind.wrap .i64 (v19_1 + (1 : Int))) hl1_ (Nat.lt_succ_self _) (Sub.cons rfl (Sub.cons rfl (Sub.cons rfl (Sub.cons rfl (Sub.cons rfl (Sub.cons rfl (Sub.nil _))))))) rfl)
  · intro s1_ hs1_
    replace hs1_ : s1_ = res1_ := Eq.symm hs1_
    subst hs1_
    have hp_ := hx1_
    clear hx1_
    show Kx _ [⟨1, vPtr k_aCode, p0⟩, ⟨3, vPtr k_code_look, (code_look.mk p0)⟩, ⟨4, vInt .i64, s1_⟩] [] _ _
    refine k_seq ?_
    refine t_seq ?_
    refine t_seq ?_
    refine t_reg ?_
    refine st (l_fa (o_t rfl) fl_aCode_3 fa30_3 (lt rfl)) ?_
    refine st (l_ld (o_t rfl) ty24 (lt rfl)) ?_
    refine st (l_lens (o_t rfl) sl24 (lt rfl)) ?_
    refine st (l_move (o_i) (lt rfl)) ?_
    refine r_nil (k_seq ?_)
    obtain ⟨res2_, hl2_0, hx2_⟩ := bs hp_
    clear hp_
    refine t_sub (Γ' := [⟨4, vInt .i64, s1_⟩, ⟨32, vInt .i64, (0 : Int)⟩, ⟨1, vPtr k_aCode, p0⟩, ⟨3, vPtr k_code_look, (code_look.mk p0)⟩, ⟨30, vSlice k_aNode, p0.States⟩, ⟨31, vInt .i64, (p0.States.length : Int)⟩]) (Sub.cons rfl (Sub.cons rfl (Sub.cons rfl (Sub.cons rfl (Sub.cons rfl (Sub.cons rfl (Sub.nil _))))))) ?_
    refine t_bloop (β := Nat × Int × Int) (σ := Int) (fun x_ => [⟨4, vInt .i64, x_.2.1⟩, ⟨32, vInt .i64, x_.2.2⟩, ⟨1, vPtr k_aCode, p0⟩, ⟨3, vPtr k_code_look, (code_look.mk p0)⟩, ⟨30, vSlice k_aNode, p0.States⟩, ⟨31, vInt .i64, (p0.States.length : Int)⟩]) (fun x_ => []) (fun x_ => code_Check.l2 x_.1 p0 x_.2.1 x_.2.2 = some res2_) (fun x_ => x_.1) (fun x_ => [⟨1, vPtr k_aCode, p0⟩, ⟨3, vPtr k_code_look, (code_look.mk p0)⟩, ⟨4, vInt .i64, x_⟩]) (fun x_ => []) (fun x_ => res2_ = x_) ?_ ?_ ((((p0.States.length : Int) - (0 : Int)).toNat + 1), s1_, (0 : Int)) hl2_0
    · rintro ⟨k2_, v4_2, v32_2⟩ hl2_
      rcases k2_ with _ | k2_
      · exact absurd (show none = some res2_ from hl2_) (by simp)
      replace hl2_ : code_Check.l2 (k2_ + 1) p0 v4_2 v32_2 = some res2_ := hl2_
      rw [code_Check.l2.eq_2] at hl2_
      show Tr Tryz.prog _ [⟨4, vInt .i64, v4_2⟩, ⟨32, vInt .i64, v32_2⟩, ⟨1, vPtr k_aCode, p0⟩, ⟨3, vPtr k_code_look, (code_look.mk p0)⟩, ⟨30, vSlice k_aNode, p0.States⟩, ⟨31, vInt .i64, (p0.States.length : Int)⟩] [] _ _
      refine t_seq ?_
      refine t_reg ?_
      refine st (l_cmp (o_t rfl) (o_t rfl) .lss (lt rfl)) ?_
      refine r_nil (k_seq ?_)
      refine t_seq ?_
      rcases bt (decide (v32_2 < (p0.States.length : Int))) with hb4 | hb4
      · rw [if_neg (nt hb4)] at hl2_
        refine t_iff (o_t rfl) hb4 ?_
        exact t_exit (k_te <| k_te <| k_be <| k_brk v4_2 (Option.some.inj hl2_).symm (Sub.cons rfl (Sub.cons rfl (Sub.cons rfl (Sub.nil _)))) rfl)
      · rw [if_pos hb4] at hl2_
        refine t_ift (o_t rfl) hb4 ?_
        refine t_skip (k_seq ?_)
        refine t_seq ?_
        refine t_blk ?_
        refine t_seq ?_
        refine t_reg ?_
        obtain ⟨t5, h6, hl2_⟩ := bs hl2_
        refine st (l_ia (o_t rfl) (o_t rfl) h6 sl24 sz54 (lt rfl)) ?_
        refine st (l_ld (o_t rfl) ty54 (lt rfl)) ?_
        refine r_als zr54 (o_t rfl) rfl sz54 (lt rfl) ?_
        refine r_nil (k_seq ?_)
        refine t_reg ?_
        refine st (l_move (o_t rfl) (lt rfl)) ?_
        refine st (l_fa (o_t rfl) fl_aNode_1 fa54_1 (lt rfl)) ?_
        refine st (l_ld (o_t rfl) ty25 (lt rfl)) ?_
        refine st (l_lens (o_t rfl) sl25 (lt rfl)) ?_
        refine st (l_bin (o_t rfl) (o_t rfl) .add (lt rfl)) ?_
        refine st (l_assign (o_t rfl) (lt rfl)) ?_
        refine r_nil (k_bn <| k_seq ?_)
        refine t_reg ?_
        refine st (l_bin (o_t rfl) (o_i) .add (lt rfl)) ?_
        refine st (l_move (o_t rfl) (lt rfl)) ?_
        exact r_nil (k_again (k2_, IntKind.wrap .i64 (v4_2 + (t5.Code.length : Int)), IntKind.wrap .i64 (v32_2 + (1 : Int))) hl2_ (Nat.lt_succ_self _) (Sub.cons rfl (Sub.cons rfl (Sub.cons rfl (Sub.cons rfl (Sub.cons rfl (Sub.cons rfl (Sub.nil _))))))) rfl)
    · intro s2_ hs2_
      replace hs2_ : s2_ = res2_ := Eq.symm hs2_
      subst hs2_
      have hp_ := hx2_
      clear hx2_
      show Kx _ [⟨1, vPtr k_aCode, p0⟩, ⟨3, vPtr k_code_look, (code_look.mk p0)⟩, ⟨4, vInt .i64, s2_⟩] [] _ _
      refine k_seq ?_
      refine t_seq ?_
      refine t_seq ?_
      refine t_reg ?_
      refine st (l_fa (o_t rfl) fl_aCode_6 fa30_6 (lt rfl)) ?_
      refine st (l_ld (o_t rfl) ty27 (lt rfl)) ?_
      refine st (l_lens (o_t rfl) sl27 (lt rfl)) ?_
      refine st (l_move (o_i) (lt rfl)) ?_
      refine r_nil (k_seq ?_)
      obtain ⟨res3_, hl3_0, hx3_⟩ := bs hp_
      clear hp_
      refine t_sub (Γ' := [⟨4, vInt .i64, s2_⟩, ⟨45, vInt .i64, (0 : Int)⟩, ⟨1, vPtr k_aCode, p0⟩, ⟨3, vPtr k_code_look, (code_look.mk p0)⟩, ⟨43, vSlice k_aTable, p0.Tables⟩, ⟨44, vInt .i64, (p0.Tables.length : Int)⟩]) (Sub.cons rfl (Sub.cons rfl (Sub.cons rfl (Sub.cons rfl (Sub.cons rfl (Sub.cons rfl (Sub.nil _))))))) ?_
      refine t_bloop (β := Nat × Int × Int) (σ := Int) (fun x_ => [⟨4, vInt .i64, x_.2.1⟩, ⟨45, vInt .i64, x_.2.2⟩, ⟨1, vPtr k_aCode, p0⟩, ⟨3, vPtr k_code_look, (code_look.mk p0)⟩, ⟨43, vSlice k_aTable, p0.Tables⟩, ⟨44, vInt .i64, (p0.Tables.length : Int)⟩]) (fun x_ => []) (fun x_ => code_Check.l3 x_.1 p0 x_.2.1 x_.2.2 = some res3_) (fun x_ => x_.1) (fun x_ => [⟨1, vPtr k_aCode, p0⟩, ⟨3, vPtr k_code_look, (code_look.mk p0)⟩, ⟨4, vInt .i64, x_⟩]) (fun x_ => []) (fun x_ => res3_ = x_) ?_ ?_ ((((p0.Tables.length : Int) - (0 : Int)).toNat + 1), s2_, (0 : Int)) hl3_0
      · rintro ⟨k3_, v4_3, v45_3⟩ hl3_
        rcases k3_ with _ | k3_
        · exact absurd (show none = some res3_ from hl3_) (by simp)
        replace hl3_ : code_Check.l3 (k3_ + 1) p0 v4_3 v45_3 = some res3_ := hl3_
        rw [code_Check.l3.eq_2] at hl3_
        show Tr Tryz.prog _ [⟨4, vInt .i64, v4_3⟩, ⟨45, vInt .i64, v45_3⟩, ⟨1, vPtr k_aCode, p0⟩, ⟨3, vPtr k_code_look, (code_look.mk p0)⟩, ⟨43, vSlice k_aTable, p0.Tables⟩, ⟨44, vInt .i64, (p0.Tables.length : Int)⟩] [] _ _
        refine t_seq ?_
        refine t_reg ?_
        refine st (l_cmp (o_t rfl) (o_t rfl) .lss (lt rfl)) ?_
        refine r_nil (k_seq ?_)
        refine t_seq ?_
        rcases bt (decide (v45_3 < (p0.Tables.length : Int))) with hb7 | hb7
        · rw [if_neg (nt hb7)] at hl3_
          refine t_iff (o_t rfl) hb7 ?_
          exact t_exit (k_te <| k_te <| k_be <| k_brk v4_3 (Option.some.inj hl3_).symm (Sub.cons rfl (Sub.cons rfl (Sub.cons rfl (Sub.nil _)))) rfl)
        · rw [if_pos hb7] at hl3_
          refine t_ift (o_t rfl) hb7 ?_
          refine t_skip (k_seq ?_)
          refine t_seq ?_
          refine t_blk ?_
          refine t_seq ?_
          refine t_reg ?_
          obtain ⟨t8, h9, hl3_⟩ := bs hl3_
          refine st (l_ia (o_t rfl) (o_t rfl) h9 sl27 sz39 (lt rfl)) ?_
          refine st (l_ld (o_t rfl) ty39 (lt rfl)) ?_
          refine r_als zr39 (o_t rfl) rfl sz39 (lt rfl) ?_
          refine r_nil (k_seq ?_)
          refine t_reg ?_
          refine st (l_move (o_t rfl) (lt rfl)) ?_
          refine st (l_fa (o_t rfl) fl_aTable_7 fa39_7 (lt rfl)) ?_
          refine st (l_ld (o_t rfl) ty25 (lt rfl)) ?_
          refine st (l_lens (o_t rfl) sl25 (lt rfl)) ?_
          refine st (l_bin (o_t rfl) (o_t rfl) .add (lt rfl)) ?_
          refine st (l_assign (o_t rfl) (lt rfl)) ?_
          refine r_nil (k_bn <| k_seq ?_)
          refine t_reg ?_
          refine st (l_bin (o_t rfl) (o_i) .add (lt rfl)) ?_
          refine st (l_move (o_t rfl) (lt rfl)) ?_
          exact r_nil (k_again (k3_, IntKind.wrap .i64 (v4_3 + (t8.Before.length : Int)), IntKind.wrap .i64 (v45_3 + (1 : Int))) hl3_ (Nat.lt_succ_self _) (Sub.cons rfl (Sub.cons rfl (Sub.cons rfl (Sub.cons rfl (Sub.cons rfl (Sub.cons rfl (Sub.nil _))))))) rfl)
      · intro s3_ hs3_
        replace hs3_ : s3_ = res3_ := Eq.symm hs3_
        subst hs3_
        have hp_ := hx3_
        clear hx3_
        show Kx _ [⟨1, vPtr k_aCode, p0⟩, ⟨3, vPtr k_code_look, (code_look.mk p0)⟩, ⟨4, vInt .i64, s3_⟩] [] _ _
        refine k_seq ?_
        refine t_seq ?_
        refine t_blk ?_
        refine t_seq ?_
        refine t_reg ?_
        refine st (l_move (o_t rfl) (lt rfl)) ?_
        refine st (l_cmp (o_t rfl) (o_i) .gtr (lt rfl)) ?_
        refine st (l_move (o_t rfl) (lt rfl)) ?_
        rcases bt (decide (s3_ > (65536 : Int))) with hb10 | hb10
        · rw [if_neg (nt hb10)] at hp_
          refine g_t rfl rfl hb10 ?_
          refine st (l_fa (o_t rfl) fl_aCode_8 fa30_8 (lt rfl)) ?_
          refine g_t rfl rfl hb10 ?_
          refine st (l_ld (o_t rfl) ty28 (lt rfl)) ?_
          refine g_t rfl rfl hb10 ?_
          refine st (l_lens (o_t rfl) sl28 (lt rfl)) ?_
          refine g_t rfl rfl hb10 ?_
          refine st (l_cmp (o_t rfl) (o_i) .gtr (lt rfl)) ?_
          refine st (l_pickf (o_t rfl) hb10 (o_t rfl) (lt rfl)) ?_
          refine st (l_move (o_t rfl) (lt rfl)) ?_
          rcases bt (decide ((p0.Arrays.length : Int) > (256 : Int))) with hb11 | hb11
          · rw [if_neg (nt hb11)] at hp_
            refine g_t rfl rfl hb11 ?_
            refine st (l_fa (o_t rfl) fl_aCode_6 fa30_6 (lt rfl)) ?_
            refine g_t rfl rfl hb11 ?_
            refine st (l_ld (o_t rfl) ty27 (lt rfl)) ?_
            refine g_t rfl rfl hb11 ?_
            refine st (l_lens (o_t rfl) sl27 (lt rfl)) ?_
            refine g_t rfl rfl hb11 ?_
            refine st (l_cmp (o_t rfl) (o_i) .gtr (lt rfl)) ?_
            refine st (l_pickf (o_t rfl) hb11 (o_t rfl) (lt rfl)) ?_
            refine st (l_move (o_t rfl) (lt rfl)) ?_
            rcases bt (decide ((p0.Tables.length : Int) > (256 : Int))) with hb12 | hb12
            · rw [if_neg (nt hb12)] at hp_
              refine g_t rfl rfl hb12 ?_
              refine st (l_fa (o_t rfl) fl_aCode_3 fa30_3 (lt rfl)) ?_
              refine g_t rfl rfl hb12 ?_
              refine st (l_ld (o_t rfl) ty24 (lt rfl)) ?_
              refine g_t rfl rfl hb12 ?_
              refine st (l_lens (o_t rfl) sl24 (lt rfl)) ?_
              refine g_t rfl rfl hb12 ?_
              refine st (l_cmp (o_t rfl) (o_i) .gtr (lt rfl)) ?_
              refine st (l_pickf (o_t rfl) hb12 (o_t rfl) (lt rfl)) ?_
              refine st (l_assign (o_t rfl) (lt rfl)) ?_
              refine r_nil (k_seq ?_)
              rcases bt (decide ((p0.States.length : Int) > (4096 : Int))) with hb13 | hb13
              · rw [if_neg (nt hb13)] at hp_
                refine t_iff (o_t rfl) hb13 ?_
                refine t_seq ?_
                refine t_reg ?_
                refine st (l_ld (o_t rfl) ty51 (lt rfl)) ?_
                obtain ⟨t14, h15, hp_⟩ := bs hp_
                refine st (l_call (ok15 (code_look.mk p0) _ h15) (.cons (o_t rfl) (.nil)) (lt rfl)) ?_
                refine st (l_not (o_t rfl) (lt rfl)) ?_
                refine st (l_move (o_t rfl) (lt rfl)) ?_
                rcases bt (!t14) with hb16 | hb16
                · rw [if_neg (nt hb16)] at hp_
                  refine g_t rfl rfl hb16 ?_
                  refine st (l_fa (o_t rfl) fl_aCode_7 fa30_7 (lt rfl)) ?_
                  refine g_t rfl rfl hb16 ?_
                  refine st (l_ld (o_t rfl) ty22 (lt rfl)) ?_
                  refine g_t rfl rfl hb16 ?_
                  refine st (l_fa (o_t rfl) fl_aCode_1 fa30_1 (lt rfl)) ?_
                  refine g_t rfl rfl hb16 ?_
                  refine st (l_ld (o_t rfl) ty23 (lt rfl)) ?_
                  refine g_t rfl rfl hb16 ?_
                  refine st (l_lens (o_t rfl) sl23 (lt rfl)) ?_
                  refine g_t rfl rfl hb16 ?_
                  obtain ⟨t17, h18, hp_⟩ := bs hp_
                  refine st (l_call (ok16 p0.Emits (p0.Heads.length : Int) _ h18) (.cons (o_t rfl) (.cons (o_t rfl) (.nil))) (lt rfl)) ?_
                  refine g_t rfl rfl hb16 ?_
                  refine st (l_not (o_t rfl) (lt rfl)) ?_
                  refine st (l_pickf (o_t rfl) hb16 (o_t rfl) (lt rfl)) ?_
                  refine st (l_move (o_t rfl) (lt rfl)) ?_
                  rcases bt (!t17) with hb19 | hb19
                  · rw [if_neg (nt hb19)] at hp_
                    refine g_t rfl rfl hb19 ?_
                    refine st (l_fa (o_t rfl) fl_aCode_8 fa30_8 (lt rfl)) ?_
                    refine g_t rfl rfl hb19 ?_
                    refine st (l_ld (o_t rfl) ty28 (lt rfl)) ?_
                    refine g_t rfl rfl hb19 ?_
                    obtain ⟨t20, h21, hp_⟩ := bs hp_
                    refine st (l_call (ok17 p0.Arrays (fun x_ : aArr => code_Check_1 x_) _ h21) (.cons (o_t rfl) (.cons (o_clo (o_fk) fn18 (fun x_ y h => ok18 x_ _ h)) (.nil))) (lt rfl)) ?_
                    refine st (l_pickf (o_t rfl) hb19 (o_t rfl) (lt rfl)) ?_
                    refine st (l_assign (o_t rfl) (lt rfl)) ?_
                    refine r_nil (k_seq ?_)
                    rcases bt (t20) with hb22 | hb22
                    · rw [if_neg (nt hb22)] at hp_
                      refine t_iff (o_t rfl) hb22 ?_
                      refine t_seq ?_
                      refine t_reg ?_
                      refine st (l_fa (o_t rfl) fl_aCode_3 fa30_3 (lt rfl)) ?_
                      refine st (l_ld (o_t rfl) ty24 (lt rfl)) ?_
                      refine st (l_mkf (.nil) (.cons (o_t rfl) (.nil)) (lt rfl)) ?_
                      obtain ⟨t23, h24, hp_⟩ := bs hp_
                      refine st (l_call (ok20 p0.States (fun x_ : aNode => code_Check_2 x_ (code_look.mk p0)) _ h24) (.cons (o_t rfl) (.cons (o_clo (o_t rfl) fn21 (fun x_ y h => ok21_0 x_ (code_look.mk p0) _ h)) (.nil))) (lt rfl)) ?_
                      refine st (l_assign (o_t rfl) (lt rfl)) ?_
                      refine r_nil (k_seq ?_)
                      rcases bt (t23) with hb25 | hb25
                      · rw [if_neg (nt hb25)] at hp_
                        refine t_iff (o_t rfl) hb25 ?_
                        refine t_seq ?_
                        refine t_reg ?_
                        refine st (l_fa (o_t rfl) fl_aCode_6 fa30_6 (lt rfl)) ?_
                        refine st (l_ld (o_t rfl) ty27 (lt rfl)) ?_
                        refine st (l_mkf (.nil) (.cons (o_t rfl) (.nil)) (lt rfl)) ?_
                        obtain ⟨t26, h27, hp_⟩ := bs hp_
                        refine st (l_call (ok23 p0.Tables (fun x_ : aTable => code_Check_3 x_ (code_look.mk p0)) _ h27) (.cons (o_t rfl) (.cons (o_clo (o_t rfl) fn24 (fun x_ y h => ok24_0 x_ (code_look.mk p0) _ h)) (.nil))) (lt rfl)) ?_
                        refine st (l_assign (o_t rfl) (lt rfl)) ?_
                        refine r_nil (k_seq ?_)
                        rcases bt (t26) with hb28 | hb28
                        · rw [if_neg (nt hb28)] at hp_
                          refine t_iff (o_t rfl) hb28 ?_
                          refine t_seq ?_
                          refine t_reg ?_
                          refine st (l_fa (o_t rfl) fl_aCode_5 fa30_5 (lt rfl)) ?_
                          refine st (l_ld (o_t rfl) ty26 (lt rfl)) ?_
                          refine st (l_mkf (.nil) (.cons (o_t rfl) (.nil)) (lt rfl)) ?_
                          obtain ⟨t29, h30, hp_⟩ := bs hp_
                          refine st (l_call (ok26 p0.Acts (fun x_ : aAct => code_Check_4 x_ (code_look.mk p0)) _ h30) (.cons (o_t rfl) (.cons (o_clo (o_t rfl) fn27 (fun x_ y h => ok27_0 x_ (code_look.mk p0) _ h)) (.nil))) (lt rfl)) ?_
                          refine st (l_assign (o_t rfl) (lt rfl)) ?_
                          refine r_nil (k_seq ?_)
                          rcases bt (t29) with hb31 | hb31
                          · rw [if_neg (nt hb31)] at hp_
                            refine t_iff (o_t rfl) hb31 ?_
                            refine t_seq ?_
                            refine t_reg ?_
                            refine st (l_ld (o_t rfl) ty51 (lt rfl)) ?_
                            refine st (l_fa (o_t rfl) fl_aCode_4 fa30_4 (lt rfl)) ?_
                            refine st (l_ld (o_t rfl) ty25 (lt rfl)) ?_
                            obtain ⟨t32, h33, hp_⟩ := bs hp_
                            refine st (l_call (ok28 (code_look.mk p0) p0.Main false true _ h33) (.cons (o_t rfl) (.cons (o_t rfl) (.cons (o_b) (.cons (o_b) (.nil))))) (lt rfl)) ?_
                            refine st (l_not (o_t rfl) (lt rfl)) ?_
                            refine st (l_assign (o_t rfl) (lt rfl)) ?_
                            refine r_nil (k_seq ?_)
                            rcases bt (!t32) with hb34 | hb34
                            · rw [if_neg (nt hb34)] at hp_
                              refine t_iff (o_t rfl) hb34 ?_
                              refine t_seq ?_
                              refine t_reg ?_
                              refine st (l_assign (o_i) (lt rfl)) ?_
                              refine r_nil (k_seq ?_)
                              cases hp_
                              exact t_ret (k_br <| k_tr <| k_ret () rfl rfl rfl rfl rfl)
                            · rw [if_pos hb34] at hp_
                              refine t_ift (o_t rfl) hb34 ?_
                              refine t_skip (k_bn <| k_seq ?_)
                              refine t_seq ?_
                              refine t_reg ?_
                              refine st (l_assign (o_i) (lt rfl)) ?_
                              refine r_nil (k_seq ?_)
                              cases hp_
                              exact t_ret (k_ret () rfl rfl rfl rfl rfl)
                          · rw [if_pos hb31] at hp_
                            refine t_ift (o_t rfl) hb31 ?_
                            refine t_skip (k_bn <| k_seq ?_)
                            refine t_seq ?_
                            refine t_reg ?_
                            refine st (l_assign (o_i) (lt rfl)) ?_
                            refine r_nil (k_seq ?_)
                            cases hp_
                            exact t_ret (k_ret () rfl rfl rfl rfl rfl)
                        · rw [if_pos hb28] at hp_
                          refine t_ift (o_t rfl) hb28 ?_
                          refine t_skip (k_bn <| k_seq ?_)
                          refine t_seq ?_
                          refine t_reg ?_
                          refine st (l_assign (o_i) (lt rfl)) ?_
                          refine r_nil (k_seq ?_)
                          cases hp_
                          exact t_ret (k_ret () rfl rfl rfl rfl rfl)
                      · rw [if_pos hb25] at hp_
                        refine t_ift (o_t rfl) hb25 ?_
                        refine t_skip (k_bn <| k_seq ?_)
                        refine t_seq ?_
                        refine t_reg ?_
                        refine st (l_assign (o_i) (lt rfl)) ?_
                        refine r_nil (k_seq ?_)
                        cases hp_
                        exact t_ret (k_ret () rfl rfl rfl rfl rfl)
                    · rw [if_pos hb22] at hp_
                      refine t_ift (o_t rfl) hb22 ?_
                      refine t_skip (k_bn <| k_seq ?_)
                      refine t_seq ?_
                      refine t_reg ?_
                      refine st (l_assign (o_i) (lt rfl)) ?_
                      refine r_nil (k_seq ?_)
                      cases hp_
                      exact t_ret (k_ret () rfl rfl rfl rfl rfl)
                  · rw [if_pos hb19] at hp_
                    refine g_n ⟨89, vBool, !t17⟩ rfl rfl (noy_b (b := false) hb19) (lt rfl) ?_
                    refine g_n ⟨89, vBool, !t17⟩ rfl rfl (noy_b (b := false) hb19) (lt rfl) ?_
                    refine g_n ⟨89, vBool, !t17⟩ rfl rfl (noy_b (b := false) hb19) (lt rfl) ?_
                    refine st (l_pickt (o_t rfl) hb19 (o_b) (lt rfl)) ?_
                    refine st (l_assign (o_t rfl) (lt rfl)) ?_
                    refine r_nil (k_seq ?_)
                    refine t_ift (o_t rfl) rfl ?_
                    refine t_skip (k_bn <| k_seq ?_)
                    refine t_seq ?_
                    refine t_reg ?_
                    refine st (l_assign (o_i) (lt rfl)) ?_
                    refine r_nil (k_seq ?_)
                    cases hp_
                    exact t_ret (k_ret () rfl rfl rfl rfl rfl)
                · rw [if_pos hb16] at hp_
                  refine g_n ⟨80, vBool, !t14⟩ rfl rfl (noy_b (b := false) hb16) (lt rfl) ?_
                  refine g_n ⟨80, vBool, !t14⟩ rfl rfl (noy_b (b := false) hb16) (lt rfl) ?_
                  refine g_n ⟨80, vBool, !t14⟩ rfl rfl (noy_b (b := false) hb16) (lt rfl) ?_
                  refine g_n ⟨80, vBool, !t14⟩ rfl rfl (noy_b (b := false) hb16) (lt rfl) ?_
                  refine g_n ⟨80, vBool, !t14⟩ rfl rfl (noy_b (b := false) hb16) (lt rfl) ?_
                  refine g_n ⟨80, vBool, !t14⟩ rfl rfl (noy_b (b := false) hb16) (lt rfl) ?_
                  refine g_n ⟨80, vBool, !t14⟩ rfl rfl (noy_b (b := false) hb16) (lt rfl) ?_
                  refine st (l_pickt (o_t rfl) hb16 (o_b) (lt rfl)) ?_
                  refine st (l_move (o_t rfl) (lt rfl)) ?_
                  refine g_n ⟨89, vBool, true⟩ rfl rfl (noy_b (b := false) rfl) (lt rfl) ?_
                  refine g_n ⟨89, vBool, true⟩ rfl rfl (noy_b (b := false) rfl) (lt rfl) ?_
                  refine g_n ⟨89, vBool, true⟩ rfl rfl (noy_b (b := false) rfl) (lt rfl) ?_
                  refine st (l_pickt (o_t rfl) rfl (o_b) (lt rfl)) ?_
                  refine st (l_assign (o_t rfl) (lt rfl)) ?_
                  refine r_nil (k_seq ?_)
                  refine t_ift (o_t rfl) rfl ?_
                  refine t_skip (k_bn <| k_seq ?_)
                  refine t_seq ?_
                  refine t_reg ?_
                  refine st (l_assign (o_i) (lt rfl)) ?_
                  refine r_nil (k_seq ?_)
                  cases hp_
                  exact t_ret (k_ret () rfl rfl rfl rfl rfl)
              · rw [if_pos hb13] at hp_
                refine t_ift (o_t rfl) hb13 ?_
                refine t_skip (k_bn <| k_seq ?_)
                refine t_seq ?_
                refine t_reg ?_
                refine st (l_assign (o_i) (lt rfl)) ?_
                refine r_nil (k_seq ?_)
                cases hp_
                exact t_ret (k_ret () rfl rfl rfl rfl rfl)
            · rw [if_pos hb12] at hp_
              refine g_n ⟨70, vBool, decide ((p0.Tables.length : Int) > (256 : Int))⟩ rfl rfl (noy_b (b := false) hb12) (lt rfl) ?_
              refine g_n ⟨70, vBool, decide ((p0.Tables.length : Int) > (256 : Int))⟩ rfl rfl (noy_b (b := false) hb12) (lt rfl) ?_
              refine g_n ⟨70, vBool, decide ((p0.Tables.length : Int) > (256 : Int))⟩ rfl rfl (noy_b (b := false) hb12) (lt rfl) ?_
              refine g_n ⟨70, vBool, decide ((p0.Tables.length : Int) > (256 : Int))⟩ rfl rfl (noy_b (b := false) hb12) (lt rfl) ?_
              refine st (l_pickt (o_t rfl) hb12 (o_b) (lt rfl)) ?_
              refine st (l_assign (o_t rfl) (lt rfl)) ?_
              refine r_nil (k_seq ?_)
              refine t_ift (o_t rfl) rfl ?_
              refine t_skip (k_bn <| k_seq ?_)
              refine t_seq ?_
              refine t_reg ?_
              refine st (l_assign (o_i) (lt rfl)) ?_
              refine r_nil (k_seq ?_)
              cases hp_
              exact t_ret (k_ret () rfl rfl rfl rfl rfl)
          · rw [if_pos hb11] at hp_
            refine g_n ⟨64, vBool, decide ((p0.Arrays.length : Int) > (256 : Int))⟩ rfl rfl (noy_b (b := false) hb11) (lt rfl) ?_
            refine g_n ⟨64, vBool, decide ((p0.Arrays.length : Int) > (256 : Int))⟩ rfl rfl (noy_b (b := false) hb11) (lt rfl) ?_
            refine g_n ⟨64, vBool, decide ((p0.Arrays.length : Int) > (256 : Int))⟩ rfl rfl (noy_b (b := false) hb11) (lt rfl) ?_
            refine g_n ⟨64, vBool, decide ((p0.Arrays.length : Int) > (256 : Int))⟩ rfl rfl (noy_b (b := false) hb11) (lt rfl) ?_
            refine st (l_pickt (o_t rfl) hb11 (o_b) (lt rfl)) ?_
            refine st (l_move (o_t rfl) (lt rfl)) ?_
            refine g_n ⟨70, vBool, true⟩ rfl rfl (noy_b (b := false) rfl) (lt rfl) ?_
            refine g_n ⟨70, vBool, true⟩ rfl rfl (noy_b (b := false) rfl) (lt rfl) ?_
            refine g_n ⟨70, vBool, true⟩ rfl rfl (noy_b (b := false) rfl) (lt rfl) ?_
            refine g_n ⟨70, vBool, true⟩ rfl rfl (noy_b (b := false) rfl) (lt rfl) ?_
            refine st (l_pickt (o_t rfl) rfl (o_b) (lt rfl)) ?_
            refine st (l_assign (o_t rfl) (lt rfl)) ?_
            refine r_nil (k_seq ?_)
            refine t_ift (o_t rfl) rfl ?_
            refine t_skip (k_bn <| k_seq ?_)
            refine t_seq ?_
            refine t_reg ?_
            refine st (l_assign (o_i) (lt rfl)) ?_
            refine r_nil (k_seq ?_)
            cases hp_
            exact t_ret (k_ret () rfl rfl rfl rfl rfl)
        · rw [if_pos hb10] at hp_
          refine g_n ⟨58, vBool, decide (s3_ > (65536 : Int))⟩ rfl rfl (noy_b (b := false) hb10) (lt rfl) ?_
          refine g_n ⟨58, vBool, decide (s3_ > (65536 : Int))⟩ rfl rfl (noy_b (b := false) hb10) (lt rfl) ?_
          refine g_n ⟨58, vBool, decide (s3_ > (65536 : Int))⟩ rfl rfl (noy_b (b := false) hb10) (lt rfl) ?_
          refine g_n ⟨58, vBool, decide (s3_ > (65536 : Int))⟩ rfl rfl (noy_b (b := false) hb10) (lt rfl) ?_
          refine st (l_pickt (o_t rfl) hb10 (o_b) (lt rfl)) ?_
          refine st (l_move (o_t rfl) (lt rfl)) ?_
          refine g_n ⟨64, vBool, true⟩ rfl rfl (noy_b (b := false) rfl) (lt rfl) ?_
          refine g_n ⟨64, vBool, true⟩ rfl rfl (noy_b (b := false) rfl) (lt rfl) ?_
          refine g_n ⟨64, vBool, true⟩ rfl rfl (noy_b (b := false) rfl) (lt rfl) ?_
          refine g_n ⟨64, vBool, true⟩ rfl rfl (noy_b (b := false) rfl) (lt rfl) ?_
          refine st (l_pickt (o_t rfl) rfl (o_b) (lt rfl)) ?_
          refine st (l_move (o_t rfl) (lt rfl)) ?_
          refine g_n ⟨70, vBool, true⟩ rfl rfl (noy_b (b := false) rfl) (lt rfl) ?_
          refine g_n ⟨70, vBool, true⟩ rfl rfl (noy_b (b := false) rfl) (lt rfl) ?_
          refine g_n ⟨70, vBool, true⟩ rfl rfl (noy_b (b := false) rfl) (lt rfl) ?_
          refine g_n ⟨70, vBool, true⟩ rfl rfl (noy_b (b := false) rfl) (lt rfl) ?_
          refine st (l_pickt (o_t rfl) rfl (o_b) (lt rfl)) ?_
          refine st (l_assign (o_t rfl) (lt rfl)) ?_
          refine r_nil (k_seq ?_)
          refine t_ift (o_t rfl) rfl ?_
          refine t_skip (k_bn <| k_seq ?_)
          refine t_seq ?_
          refine t_reg ?_
          refine st (l_assign (o_i) (lt rfl)) ?_
          refine r_nil (k_seq ?_)
          cases hp_
          exact t_ret (k_ret () rfl rfl rfl rfl rfl)
-- pointsman/pointsmanlaw01.TwinInts
theorem ok30_0 (l : List Int) (y_ : List Int) (hp_ : pointsmanlaw01_TwinInts l = some y_) : FC Tryz.prog 30 [⟨vSlice (kInt .i64), l⟩] [] (fun v_ : Value => .ret kVal.v v_) (fun v_ => [rArr v_ 3 (kInt .i64) y_]) := by
  unfold pointsmanlaw01_TwinInts at hp_
  refine fc_of 28 Tryz.func30 rfl fn30 rfl (Nat.le_of_ble_eq_true rfl) fun I_ w_ F_ => ?_
  refine t_seq ?_
  refine t_reg ?_
  refine st (l_assign (o_nil (K := kInt .i64)) (lt rfl)) ?_
  refine r_nil (k_seq ?_)
  refine t_seq ?_
  refine t_reg ?_
  refine st (l_move (o_t rfl) (lt rfl)) ?_
  refine st (l_lens (o_t rfl) sl22 (lt rfl)) ?_
  refine st (l_bin (o_t rfl) (o_i) .add (lt rfl)) ?_
  rcases bt (mkFits 8 (IntKind.wrap .i64 ((l.length : Int) + (1 : Int)))) with hc1 | hc1
  · rw [if_neg (nt hc1)] at hp_; cases hp_
  rw [if_pos hc1] at hp_
  refine r_mk0 el22 (o_i) (o_t rfl) hc1 (lt rfl) (fun o2 => ?_)
  refine st (l_assign (o_t rfl) (lt rfl)) ?_
  refine r_nil (k_seq ?_)
  refine t_seq ?_
  refine t_seq ?_
  refine t_reg ?_
  refine st (l_assign (o_i) (lt rfl)) ?_
  refine r_nil (k_seq ?_)
  obtain ⟨res1_, hl1_0, hx1_⟩ := bs hp_
  clear hp_
  refine t_sub (Γ' := [⟨4, vInt .i64, (0 : Int)⟩, ⟨0, vSlice (kInt .i64), l⟩, ⟨3, kVal.v, o2⟩]) (Sub.cons rfl (Sub.cons rfl (Sub.cons rfl (Sub.nil _)))) ?_
  refine t_bloop (β := Nat × Int × (List Int) × Value) (σ := (List Int) × Value) (fun x_ => [⟨4, vInt .i64, x_.2.1⟩, ⟨0, vSlice (kInt .i64), l⟩, ⟨3, kVal.v, x_.2.2.2⟩]) (fun x_ => [rArr x_.2.2.2 3 (kInt .i64) x_.2.2.1]) (fun x_ => pointsmanlaw01_TwinInts.l1 x_.1 l x_.2.1 x_.2.2.1 = some res1_) (fun x_ => x_.1) (fun x_ => [⟨0, vSlice (kInt .i64), l⟩, ⟨3, kVal.v, x_.2⟩]) (fun x_ => [rArr x_.2 3 (kInt .i64) x_.1]) (fun x_ => res1_ = x_.1) ?_ ?_ ((((l.length : Int) - (0 : Int)).toNat + 1), (0 : Int), [], o2) hl1_0
  · rintro ⟨k1_, v4_1, w3_1, g3_1⟩ hl1_
    rcases k1_ with _ | k1_
    · exact absurd (show none = some res1_ from hl1_) (by simp)
    replace hl1_ : pointsmanlaw01_TwinInts.l1 (k1_ + 1) l v4_1 w3_1 = some res1_ := hl1_
    rw [pointsmanlaw01_TwinInts.l1.eq_2] at hl1_
    show Tr Tryz.prog _ [⟨4, vInt .i64, v4_1⟩, ⟨0, vSlice (kInt .i64), l⟩, ⟨3, kVal.v, g3_1⟩] [rArr g3_1 3 (kInt .i64) w3_1] _ _
    refine t_seq ?_
    refine t_seq ?_
    refine t_reg ?_
    refine st (l_move (o_t rfl) (lt rfl)) ?_
    refine st (l_move (o_t rfl) (lt rfl)) ?_
    refine st (l_lens (o_t rfl) sl22 (lt rfl)) ?_
    refine st (l_cmp (o_t rfl) (o_t rfl) .lss (lt rfl)) ?_
    refine r_nil (k_seq ?_)
    rcases bt (decide (v4_1 < (l.length : Int))) with hb4 | hb4
    · rw [if_neg (nt hb4)] at hl1_
      refine t_iff (o_t rfl) hb4 ?_
      exact t_exit (k_te <| k_te <| k_be <| k_brk (w3_1, g3_1) (Option.some.inj hl1_).symm (Sub.cons rfl (Sub.cons rfl (Sub.nil _))) rfl)
    · rw [if_pos hb4] at hl1_
      refine t_ift (o_t rfl) hb4 ?_
      refine t_skip (k_seq ?_)
      refine t_seq ?_
      refine t_blk ?_
      refine t_reg ?_
      refine st (l_move (o_t rfl) (lt rfl)) ?_
      refine st (l_move (o_t rfl) (lt rfl)) ?_
      refine st (l_move (o_t rfl) (lt rfl)) ?_
      obtain ⟨t5, h6, hl1_⟩ := bs hl1_
      refine st (l_ia (o_t rfl) (o_t rfl) h6 sl22 sz3 (lt rfl)) ?_
      refine st (l_ld (o_t rfl) ty3 (lt rfl)) ?_
      refine st (l_bslice (.cons (o_t rfl) (.nil)) rfl (Nat.le_of_ble_eq_true rfl) (lt rfl) sl22 zb3 sz3 (lt rfl)) ?_
      rcases bt (appFits 8 w3_1.length 1) with hc7 | hc7
      · rw [if_neg (nt hc7)] at hl1_; cases hl1_
      rw [if_pos hc7] at hl1_
      refine r_app (i := 0) el22 rfl (o_t rfl) (o_t rfl) rfl (by simp) hc7 (lt rfl) (fun o8 => ?_)
      refine st (l_assign (o_t rfl) (lt rfl)) ?_
      refine r_nil (k_bn <| k_seq ?_)
      refine t_reg ?_
      refine st (l_move (o_t rfl) (lt rfl)) ?_
      refine st (l_bin (o_t rfl) (o_i) .add (lt rfl)) ?_
      refine st (l_assign (o_t rfl) (lt rfl)) ?_
      exact r_nil (k_again (k1_, IntKind.wrap .i64 (v4_1 + (1 : Int)), (w3_1 ++ [t5]), o8) hl1_ (Nat.lt_succ_self _) (Sub.cons rfl (Sub.cons rfl (Sub.cons rfl (Sub.nil _)))) rfl)
  · rintro ⟨s1_, g3_1⟩ hs1_
    replace hs1_ : s1_ = res1_ := Eq.symm hs1_
    subst hs1_
    have hp_ := hx1_
    clear hx1_
    show Kx _ [⟨0, vSlice (kInt .i64), l⟩, ⟨3, kVal.v, g3_1⟩] [rArr g3_1 3 (kInt .i64) s1_] _ _
    refine k_seq ?_
    refine t_seq ?_
    refine t_reg ?_
    refine st (l_move (o_t rfl) (lt rfl)) ?_
    refine st (l_bslice (.cons (o_i) (.nil)) rfl (Nat.le_of_ble_eq_true rfl) (lt rfl) sl22 zb3 sz3 (lt rfl)) ?_
    rcases bt (appFits 8 s1_.length 1) with hc9 | hc9
    · rw [if_neg (nt hc9)] at hp_; cases hp_
    rw [if_pos hc9] at hp_
    refine r_app (i := 0) el22 rfl (o_t rfl) (o_t rfl) rfl (by simp) hc9 (lt rfl) (fun o10 => ?_)
    refine st (l_move (o_t rfl) (lt rfl)) ?_
    refine st (l_lens (o_t rfl) sl22 (lt rfl)) ?_
    rcases bt (decide (0 ≤ (l.length : Int)) && decide ((l.length : Int) ≤ ((s1_ ++ [(77 : Int)]).length : Int))) with hc11 | hc11
    · rw [if_neg (nt hc11)] at hp_; cases hp_
    rw [if_pos hc11] at hp_
    refine r_slo (i := 0) (o_t rfl) rfl (oo_s (o_t rfl)) hc11 sl22 sz3 (lt rfl) (fun o12 => ?_)
    refine st (l_assign (o_t rfl) (lt rfl)) ?_
    refine r_nil (k_seq ?_)
    cases hp_
    exact t_ret (k_keep (pm_take 0 rfl pm_nil) <| k_ret o12 rfl rfl rfl rfl rfl)
-- pointsman/pointsmanlaw01.TwinInts
theorem ok30 (l : List Int) (y_ : List Int) (hp_ : pointsmanlaw01_TwinInts l = some y_) : FP Tryz.prog 30 [⟨vSlice (kInt .i64), l⟩] (vSlice (kInt .i64)) y_ := by
  unfold pointsmanlaw01_TwinInts at hp_
  refine fc_of 28 Tryz.func30 rfl fn30 rfl (Nat.le_of_ble_eq_true rfl) fun I_ w_ F_ => ?_
  refine t_seq ?_
  refine t_reg ?_
  refine st (l_assign (o_nil (K := kInt .i64)) (lt rfl)) ?_
  refine r_nil (k_seq ?_)
  refine t_seq ?_
  refine t_reg ?_
  refine st (l_move (o_t rfl) (lt rfl)) ?_
  refine st (l_lens (o_t rfl) sl22 (lt rfl)) ?_
  refine st (l_bin (o_t rfl) (o_i) .add (lt rfl)) ?_
  rcases bt (mkFits 8 (IntKind.wrap .i64 ((l.length : Int) + (1 : Int)))) with hc1 | hc1
  · rw [if_neg (nt hc1)] at hp_; cases hp_
  rw [if_pos hc1] at hp_
  refine r_mk0 el22 (o_i) (o_t rfl) hc1 (lt rfl) (fun o2 => ?_)
  refine st (l_assign (o_t rfl) (lt rfl)) ?_
  refine r_nil (k_seq ?_)
  refine t_seq ?_
  refine t_seq ?_
  refine t_reg ?_
  refine st (l_assign (o_i) (lt rfl)) ?_
  refine r_nil (k_seq ?_)
  obtain ⟨res1_, hl1_0, hx1_⟩ := bs hp_
  clear hp_
  refine t_sub (Γ' := [⟨4, vInt .i64, (0 : Int)⟩, ⟨0, vSlice (kInt .i64), l⟩, ⟨3, kVal.v, o2⟩]) (Sub.cons rfl (Sub.cons rfl (Sub.cons rfl (Sub.nil _)))) ?_
  refine t_bloop (β := Nat × Int × (List Int) × Value) (σ := (List Int) × Value) (fun x_ => [⟨4, vInt .i64, x_.2.1⟩, ⟨0, vSlice (kInt .i64), l⟩, ⟨3, kVal.v, x_.2.2.2⟩]) (fun x_ => [rArr x_.2.2.2 3 (kInt .i64) x_.2.2.1]) (fun x_ => pointsmanlaw01_TwinInts.l1 x_.1 l x_.2.1 x_.2.2.1 = some res1_) (fun x_ => x_.1) (fun x_ => [⟨0, vSlice (kInt .i64), l⟩, ⟨3, kVal.v, x_.2⟩]) (fun x_ => [rArr x_.2 3 (kInt .i64) x_.1]) (fun x_ => res1_ = x_.1) ?_ ?_ ((((l.length : Int) - (0 : Int)).toNat + 1), (0 : Int), [], o2) hl1_0
  · rintro ⟨k1_, v4_1, w3_1, g3_1⟩ hl1_
    rcases k1_ with _ | k1_
    · exact absurd (show none = some res1_ from hl1_) (by simp)
    replace hl1_ : pointsmanlaw01_TwinInts.l1 (k1_ + 1) l v4_1 w3_1 = some res1_ := hl1_
    rw [pointsmanlaw01_TwinInts.l1.eq_2] at hl1_
    show Tr Tryz.prog _ [⟨4, vInt .i64, v4_1⟩, ⟨0, vSlice (kInt .i64), l⟩, ⟨3, kVal.v, g3_1⟩] [rArr g3_1 3 (kInt .i64) w3_1] _ _
    refine t_seq ?_
    refine t_seq ?_
    refine t_reg ?_
    refine st (l_move (o_t rfl) (lt rfl)) ?_
    refine st (l_move (o_t rfl) (lt rfl)) ?_
    refine st (l_lens (o_t rfl) sl22 (lt rfl)) ?_
    refine st (l_cmp (o_t rfl) (o_t rfl) .lss (lt rfl)) ?_
    refine r_nil (k_seq ?_)
    rcases bt (decide (v4_1 < (l.length : Int))) with hb4 | hb4
    · rw [if_neg (nt hb4)] at hl1_
      refine t_iff (o_t rfl) hb4 ?_
      exact t_exit (k_te <| k_te <| k_be <| k_brk (w3_1, g3_1) (Option.some.inj hl1_).symm (Sub.cons rfl (Sub.cons rfl (Sub.nil _))) rfl)
    · rw [if_pos hb4] at hl1_
      refine t_ift (o_t rfl) hb4 ?_
      refine t_skip (k_seq ?_)
      refine t_seq ?_
      refine t_blk ?_
      refine t_reg ?_
      refine st (l_move (o_t rfl) (lt rfl)) ?_
      refine st (l_move (o_t rfl) (lt rfl)) ?_
      refine st (l_move (o_t rfl) (lt rfl)) ?_
      obtain ⟨t5, h6, hl1_⟩ := bs hl1_
      refine st (l_ia (o_t rfl) (o_t rfl) h6 sl22 sz3 (lt rfl)) ?_
      refine st (l_ld (o_t rfl) ty3 (lt rfl)) ?_
      refine st (l_bslice (.cons (o_t rfl) (.nil)) rfl (Nat.le_of_ble_eq_true rfl) (lt rfl) sl22 zb3 sz3 (lt rfl)) ?_
      rcases bt (appFits 8 w3_1.length 1) with hc7 | hc7
      · rw [if_neg (nt hc7)] at hl1_; cases hl1_
      rw [if_pos hc7] at hl1_
      refine r_app (i := 0) el22 rfl (o_t rfl) (o_t rfl) rfl (by simp) hc7 (lt rfl) (fun o8 => ?_)
      refine st (l_assign (o_t rfl) (lt rfl)) ?_
      refine r_nil (k_bn <| k_seq ?_)
      refine t_reg ?_
      refine st (l_move (o_t rfl) (lt rfl)) ?_
      refine st (l_bin (o_t rfl) (o_i) .add (lt rfl)) ?_
      refine st (l_assign (o_t rfl) (lt rfl)) ?_
      exact r_nil (k_again (k1_, IntKind.wrap .i64 (v4_1 + (1 : Int)), (w3_1 ++ [t5]), o8) hl1_ (Nat.lt_succ_self _) (Sub.cons rfl (Sub.cons rfl (Sub.cons rfl (Sub.nil _)))) rfl)
  · rintro ⟨s1_, g3_1⟩ hs1_
    replace hs1_ : s1_ = res1_ := Eq.symm hs1_
    subst hs1_
    have hp_ := hx1_
    clear hx1_
    show Kx _ [⟨0, vSlice (kInt .i64), l⟩, ⟨3, kVal.v, g3_1⟩] [rArr g3_1 3 (kInt .i64) s1_] _ _
    refine k_seq ?_
    refine t_seq ?_
    refine t_reg ?_
    refine st (l_move (o_t rfl) (lt rfl)) ?_
    refine st (l_bslice (.cons (o_i) (.nil)) rfl (Nat.le_of_ble_eq_true rfl) (lt rfl) sl22 zb3 sz3 (lt rfl)) ?_
    rcases bt (appFits 8 s1_.length 1) with hc9 | hc9
    · rw [if_neg (nt hc9)] at hp_; cases hp_
    rw [if_pos hc9] at hp_
    refine r_app (i := 0) el22 rfl (o_t rfl) (o_t rfl) rfl (by simp) hc9 (lt rfl) (fun o10 => ?_)
    refine st (l_move (o_t rfl) (lt rfl)) ?_
    refine st (l_lens (o_t rfl) sl22 (lt rfl)) ?_
    rcases bt (decide (0 ≤ (l.length : Int)) && decide ((l.length : Int) ≤ ((s1_ ++ [(77 : Int)]).length : Int))) with hc11 | hc11
    · rw [if_neg (nt hc11)] at hp_; cases hp_
    rw [if_pos hc11] at hp_
    refine r_slo (i := 0) (o_t rfl) rfl (oo_s (o_t rfl)) hc11 sl22 sz3 (lt rfl) (fun o12 => ?_)
    refine st (l_assign (o_t rfl) (lt rfl)) ?_
    refine r_nil (k_seq ?_)
    cases hp_
    exact t_ret (k_frz (s := 2) (i := 0) rfl rfl <| k_drop <| k_ret () rfl rfl rfl rfl rfl)
-- pointsman/pointsmanlaw01.TwinHead
theorem ok67 (x : aHead) (y_ : aHead) (hp_ : pointsmanlaw01_TwinHead x = some y_) : FP Tryz.prog 67 [⟨(k_aHead).v, x⟩] ((k_aHead).v) y_ := by
  unfold pointsmanlaw01_TwinHead at hp_
  refine fc_of 7 Tryz.func67 rfl fn67 rfl (Nat.le_of_ble_eq_true rfl) fun I_ w_ F_ => ?_
  refine t_seq ?_
  refine t_reg ?_
  refine st (l_box (o_t rfl) (lt rfl)) ?_
  refine r_alloc zr85 (lt rfl) (fun b1 => ?_)
  refine r_nil (k_seq ?_)
  refine t_seq ?_
  refine t_reg ?_
  refine st (l_fa (o_t rfl) fl_aHead_0 fa85_0 (lt rfl)) ?_
  refine st (l_ld (o_t rfl) ty22 (lt rfl)) ?_
  obtain ⟨t3, h4, hp_⟩ := bs hp_
  refine st (l_call (ok30 x.Slots _ h4) (.cons (o_t rfl) (.nil)) (lt rfl)) ?_
  refine st (l_build zr85 (.cons (o_t rfl) fl_aHead_0 ft85_0 (.nil)) rfl stb85 (lt rfl)) ?_
  refine r_stm (i := 0) (o_t rfl) (o_t rfl) rfl (Fld.refl _) sz85 ?_
  refine r_nil (k_seq ?_)
  cases hp_
  exact t_ret (k_frzb (s := 2) (i := 0) rfl rfl <| k_drop <| k_retc () rfl ty85 rfl rfl rfl rfl)
-- pointsman/pointsmanlaw01.TwinHeads
theorem ok31 (l : List aHead) (y_ : List aHead) (hp_ : pointsmanlaw01_TwinHeads l = some y_) : FP Tryz.prog 31 [⟨vSlice k_aHead, l⟩] (vSlice k_aHead) y_ := by
  unfold pointsmanlaw01_TwinHeads at hp_
  refine fc_of 31 Tryz.func31 rfl fn31 rfl (Nat.le_of_ble_eq_true rfl) fun I_ w_ F_ => ?_
  refine t_seq ?_
  refine t_reg ?_
  refine st (l_assign (o_nil (K := k_aHead)) (lt rfl)) ?_
  refine r_nil (k_seq ?_)
  refine t_seq ?_
  refine t_reg ?_
  refine st (l_move (o_t rfl) (lt rfl)) ?_
  refine st (l_lens (o_t rfl) sl23 (lt rfl)) ?_
  refine st (l_bin (o_t rfl) (o_i) .add (lt rfl)) ?_
  rcases bt (mkFits 24 (IntKind.wrap .i64 ((l.length : Int) + (1 : Int)))) with hc1 | hc1
  · rw [if_neg (nt hc1)] at hp_; cases hp_
  rw [if_pos hc1] at hp_
  refine r_mk0 el23 (o_i) (o_t rfl) hc1 (lt rfl) (fun o2 => ?_)
  refine st (l_assign (o_t rfl) (lt rfl)) ?_
  refine r_nil (k_seq ?_)
  refine t_seq ?_
  refine t_seq ?_
  refine t_reg ?_
  refine st (l_assign (o_i) (lt rfl)) ?_
  refine r_nil (k_seq ?_)
  obtain ⟨res1_, hl1_0, hx1_⟩ := bs hp_
  clear hp_
  refine t_sub (Γ' := [⟨4, vInt .i64, (0 : Int)⟩, ⟨0, vSlice k_aHead, l⟩, ⟨3, kVal.v, o2⟩]) (Sub.cons rfl (Sub.cons rfl (Sub.cons rfl (Sub.nil _)))) ?_
  refine t_bloop (β := Nat × Int × (List aHead) × Value) (σ := (List aHead) × Value) (fun x_ => [⟨4, vInt .i64, x_.2.1⟩, ⟨0, vSlice k_aHead, l⟩, ⟨3, kVal.v, x_.2.2.2⟩]) (fun x_ => [rArr x_.2.2.2 85 k_aHead x_.2.2.1]) (fun x_ => pointsmanlaw01_TwinHeads.l1 x_.1 l x_.2.1 x_.2.2.1 = some res1_) (fun x_ => x_.1) (fun x_ => [⟨0, vSlice k_aHead, l⟩, ⟨3, kVal.v, x_.2⟩]) (fun x_ => [rArr x_.2 85 k_aHead x_.1]) (fun x_ => res1_ = x_.1) ?_ ?_ ((((l.length : Int) - (0 : Int)).toNat + 1), (0 : Int), [], o2) hl1_0
  · rintro ⟨k1_, v4_1, w3_1, g3_1⟩ hl1_
    rcases k1_ with _ | k1_
    · exact absurd (show none = some res1_ from hl1_) (by simp)
    replace hl1_ : pointsmanlaw01_TwinHeads.l1 (k1_ + 1) l v4_1 w3_1 = some res1_ := hl1_
    rw [pointsmanlaw01_TwinHeads.l1.eq_2] at hl1_
    show Tr Tryz.prog _ [⟨4, vInt .i64, v4_1⟩, ⟨0, vSlice k_aHead, l⟩, ⟨3, kVal.v, g3_1⟩] [rArr g3_1 85 k_aHead w3_1] _ _
    refine t_seq ?_
    refine t_seq ?_
    refine t_reg ?_
    refine st (l_move (o_t rfl) (lt rfl)) ?_
    refine st (l_move (o_t rfl) (lt rfl)) ?_
    refine st (l_lens (o_t rfl) sl23 (lt rfl)) ?_
    refine st (l_cmp (o_t rfl) (o_t rfl) .lss (lt rfl)) ?_
    refine r_nil (k_seq ?_)
    rcases bt (decide (v4_1 < (l.length : Int))) with hb4 | hb4
    · rw [if_neg (nt hb4)] at hl1_
      refine t_iff (o_t rfl) hb4 ?_
      exact t_exit (k_te <| k_te <| k_be <| k_brk (w3_1, g3_1) (Option.some.inj hl1_).symm (Sub.cons rfl (Sub.cons rfl (Sub.nil _))) rfl)
    · rw [if_pos hb4] at hl1_
      refine t_ift (o_t rfl) hb4 ?_
      refine t_skip (k_seq ?_)
      refine t_seq ?_
      refine t_blk ?_
      refine t_reg ?_
      refine st (l_move (o_t rfl) (lt rfl)) ?_
      refine st (l_move (o_t rfl) (lt rfl)) ?_
      refine st (l_move (o_t rfl) (lt rfl)) ?_
      obtain ⟨t5, h6, hl1_⟩ := bs hl1_
      refine st (l_ia (o_t rfl) (o_t rfl) h6 sl23 sz85 (lt rfl)) ?_
      refine st (l_ld (o_t rfl) ty85 (lt rfl)) ?_
      obtain ⟨t7, h8, hl1_⟩ := bs hl1_
      refine st (l_call (ok67 t5 _ h8) (.cons (o_t rfl) (.nil)) (lt rfl)) ?_
      refine st (l_bslice (.cons (o_t rfl) (.nil)) rfl (Nat.le_of_ble_eq_true rfl) (lt rfl) sl23 zb85 sz85 (lt rfl)) ?_
      rcases bt (appFits 24 w3_1.length 1) with hc9 | hc9
      · rw [if_neg (nt hc9)] at hl1_; cases hl1_
      rw [if_pos hc9] at hl1_
      refine r_app (i := 0) el23 rfl (o_t rfl) (o_t rfl) rfl (by simp) hc9 (lt rfl) (fun o10 => ?_)
      refine st (l_assign (o_t rfl) (lt rfl)) ?_
      refine r_nil (k_bn <| k_seq ?_)
      refine t_reg ?_
      refine st (l_move (o_t rfl) (lt rfl)) ?_
      refine st (l_bin (o_t rfl) (o_i) .add (lt rfl)) ?_
      refine st (l_assign (o_t rfl) (lt rfl)) ?_
      exact r_nil (k_again (k1_, IntKind.wrap .i64 (v4_1 + (1 : Int)), (w3_1 ++ [t7]), o10) hl1_ (Nat.lt_succ_self _) (Sub.cons rfl (Sub.cons rfl (Sub.cons rfl (Sub.nil _)))) rfl)
  · rintro ⟨s1_, g3_1⟩ hs1_
    replace hs1_ : s1_ = res1_ := Eq.symm hs1_
    subst hs1_
    have hp_ := hx1_
    clear hx1_
    show Kx _ [⟨0, vSlice k_aHead, l⟩, ⟨3, kVal.v, g3_1⟩] [rArr g3_1 85 k_aHead s1_] _ _
    refine k_seq ?_
    refine t_seq ?_
    refine t_reg ?_
    refine st (l_move (o_t rfl) (lt rfl)) ?_
    refine st (l_bslice (.cons (o_i) (.nil)) rfl (Nat.le_of_ble_eq_true rfl) (lt rfl) sl22 zb3 sz3 (lt rfl)) ?_
    refine st (l_build zr85 (.cons (o_t rfl) fl_aHead_0 ft85_0 (.nil)) rfl stb85 (lt rfl)) ?_
    refine st (l_bslice (.cons (o_t rfl) (.nil)) rfl (Nat.le_of_ble_eq_true rfl) (lt rfl) sl23 zb85 sz85 (lt rfl)) ?_
    rcases bt (appFits 24 s1_.length 1) with hc11 | hc11
    · rw [if_neg (nt hc11)] at hp_; cases hp_
    rw [if_pos hc11] at hp_
    refine r_app (i := 0) el23 rfl (o_t rfl) (o_t rfl) rfl (by simp) hc11 (lt rfl) (fun o12 => ?_)
    refine st (l_move (o_t rfl) (lt rfl)) ?_
    refine st (l_lens (o_t rfl) sl23 (lt rfl)) ?_
    rcases bt (decide (0 ≤ (l.length : Int)) && decide ((l.length : Int) ≤ ((s1_ ++ [(aHead.mk [(77 : Int)])]).length : Int))) with hc13 | hc13
    · rw [if_neg (nt hc13)] at hp_; cases hp_
    rw [if_pos hc13] at hp_
    refine r_slo (i := 0) (o_t rfl) rfl (oo_s (o_t rfl)) hc13 sl23 sz85 (lt rfl) (fun o14 => ?_)
    refine st (l_assign (o_t rfl) (lt rfl)) ?_
    refine r_nil (k_seq ?_)
    cases hp_
    exact t_ret (k_frz (s := 2) (i := 0) rfl rfl <| k_drop <| k_ret () rfl rfl rfl rfl rfl)
-- pointsman/pointsmanlaw01.TwinIns
theorem ok69 (x : aIns) (y_ : aIns) (hp_ : pointsmanlaw01_TwinIns x = some y_) : FP Tryz.prog 69 [⟨(k_aIns).v, x⟩] ((k_aIns).v) y_ := by
  unfold pointsmanlaw01_TwinIns at hp_
  refine fc_of 23 Tryz.func69 rfl fn69 rfl (Nat.le_of_ble_eq_true rfl) fun I_ w_ F_ => ?_
  refine t_seq ?_
  refine t_reg ?_
  refine st (l_box (o_t rfl) (lt rfl)) ?_
  refine r_alloc zr75 (lt rfl) (fun b1 => ?_)
  refine r_nil (k_seq ?_)
  refine t_seq ?_
  obtain ⟨t3, h4, hp_⟩ := bs hp_
  refine t_draw [(0, fun gs_ => some ⟨3, vPtr (kInt .u8), x.Op⟩), (0, fun gs_ => some ⟨4, vInt .u8, x.Op⟩), (0, fun gs_ => some ⟨5, vPtr (kInt .i64), x.To⟩), (0, fun gs_ => some ⟨6, vInt .i64, x.To⟩), (0, fun gs_ => some ⟨7, vPtr (kInt .i64), x.A⟩), (0, fun gs_ => some ⟨8, vInt .i64, x.A⟩), (0, fun gs_ => some ⟨9, vPtr (kInt .i64), x.B⟩), (0, fun gs_ => some ⟨10, vInt .i64, x.B⟩), (0, fun gs_ => some ⟨11, vPtr (kInt .i64), x.N⟩), (0, fun gs_ => some ⟨12, vInt .i64, x.N⟩), (0, fun gs_ => some ⟨13, vPtr (kInt .i64), x.M⟩), (0, fun gs_ => some ⟨14, vInt .i64, x.M⟩), (0, fun gs_ => some ⟨15, vPtr (kSlice (kInt .i64)), x.L⟩), (0, fun gs_ => some ⟨16, vSlice (kInt .i64), x.L⟩), (0, fun gs_ => some ⟨17, vSlice (kInt .i64), t3⟩), (0, fun gs_ => some ⟨18, vPtr k_aBits, x.Lit⟩), (0, fun gs_ => some ⟨19, (k_aBits).v, x.Lit⟩), (0, fun gs_ => some ⟨20, vPtr (kInt .u8), x.By⟩), (0, fun gs_ => some ⟨21, vInt .u8, x.By⟩), (0, fun gs_ => some ⟨22, (k_aIns).v, (aIns.mk x.Op x.To x.A x.B x.N x.M t3 x.Lit x.By)⟩), (1, fun gs_ => none)] mixed rfl rfl (fun gs_ => [] ++ ph gs_ [fun gs_ => [rBox b1 75 k_aIns (aIns.mk 0 0 0 0 0 0 [] (aBits.mk 0 0 0) 0)], fun gs_ => [rBox b1 75 k_aIns (aIns.mk x.Op x.To x.A x.B x.N x.M t3 x.Lit x.By)]]) [20] rfl (.x (f := fun gs_ => ⟨3, vPtr (kInt .u8), x.Op⟩) 0 (fun gs_ => [⟨1, vPtr k_aIns, x⟩]) rfl (fun gs_ => l_fa (o_t rfl) fl_aIns_0 fa75_0 (lt rfl)) (fun gs_ => .b rfl rfl (.nil)) .n (fun _ => rfl) rfl (fun _ _ _ => rfl) (.x (f := fun gs_ => ⟨4, vInt .u8, x.Op⟩) 0 (fun gs_ => [⟨3, vPtr (kInt .u8), x.Op⟩]) rfl (fun gs_ => l_ld (o_t rfl) ty69 (lt rfl)) (fun gs_ => .d 0 rfl rfl (.nil)) .n (fun _ => rfl) rfl (fun _ _ _ => rfl) (.x (f := fun gs_ => ⟨5, vPtr (kInt .i64), x.To⟩) 0 (fun gs_ => [⟨1, vPtr k_aIns, x⟩]) rfl (fun gs_ => l_fa (o_t rfl) fl_aIns_1 fa75_1 (lt rfl)) (fun gs_ => .b rfl rfl (.nil)) .n (fun _ => rfl) rfl (fun _ _ _ => rfl) (.x (f := fun gs_ => ⟨6, vInt .i64, x.To⟩) 0 (fun gs_ => [⟨5, vPtr (kInt .i64), x.To⟩]) rfl (fun gs_ => l_ld (o_t rfl) ty3 (lt rfl)) (fun gs_ => .d 2 rfl rfl (.nil)) .n (fun _ => rfl) rfl (fun _ _ _ => rfl) (.x (f := fun gs_ => ⟨7, vPtr (kInt .i64), x.A⟩) 0 (fun gs_ => [⟨1, vPtr k_aIns, x⟩]) rfl (fun gs_ => l_fa (o_t rfl) fl_aIns_2 fa75_2 (lt rfl)) (fun gs_ => .b rfl rfl (.nil)) .n (fun _ => rfl) rfl (fun _ _ _ => rfl) (.x (f := fun gs_ => ⟨8, vInt .i64, x.A⟩) 0 (fun gs_ => [⟨7, vPtr (kInt .i64), x.A⟩]) rfl (fun gs_ => l_ld (o_t rfl) ty3 (lt rfl)) (fun gs_ => .d 4 rfl rfl (.nil)) .n (fun _ => rfl) rfl (fun _ _ _ => rfl) (.x (f := fun gs_ => ⟨9, vPtr (kInt .i64), x.B⟩) 0 (fun gs_ => [⟨1, vPtr k_aIns, x⟩]) rfl (fun gs_ => l_fa (o_t rfl) fl_aIns_3 fa75_3 (lt rfl)) (fun gs_ => .b rfl rfl (.nil)) .n (fun _ => rfl) rfl (fun _ _ _ => rfl) (.x (f := fun gs_ => ⟨10, vInt .i64, x.B⟩) 0 (fun gs_ => [⟨9, vPtr (kInt .i64), x.B⟩]) rfl (fun gs_ => l_ld (o_t rfl) ty3 (lt rfl)) (fun gs_ => .d 6 rfl rfl (.nil)) .n (fun _ => rfl) rfl (fun _ _ _ => rfl) (.x (f := fun gs_ => ⟨11, vPtr (kInt .i64), x.N⟩) 0 (fun gs_ => [⟨1, vPtr k_aIns, x⟩]) rfl (fun gs_ => l_fa (o_t rfl) fl_aIns_4 fa75_4 (lt rfl)) (fun gs_ => .b rfl rfl (.nil)) .n (fun _ => rfl) rfl (fun _ _ _ => rfl) (.x (f := fun gs_ => ⟨12, vInt .i64, x.N⟩) 0 (fun gs_ => [⟨11, vPtr (kInt .i64), x.N⟩]) rfl (fun gs_ => l_ld (o_t rfl) ty3 (lt rfl)) (fun gs_ => .d 8 rfl rfl (.nil)) .n (fun _ => rfl) rfl (fun _ _ _ => rfl) (.x (f := fun gs_ => ⟨13, vPtr (kInt .i64), x.M⟩) 0 (fun gs_ => [⟨1, vPtr k_aIns, x⟩]) rfl (fun gs_ => l_fa (o_t rfl) fl_aIns_5 fa75_5 (lt rfl)) (fun gs_ => .b rfl rfl (.nil)) .n (fun _ => rfl) rfl (fun _ _ _ => rfl) (.x (f := fun gs_ => ⟨14, vInt .i64, x.M⟩) 0 (fun gs_ => [⟨13, vPtr (kInt .i64), x.M⟩]) rfl (fun gs_ => l_ld (o_t rfl) ty3 (lt rfl)) (fun gs_ => .d 10 rfl rfl (.nil)) .n (fun _ => rfl) rfl (fun _ _ _ => rfl) (.x (f := fun gs_ => ⟨15, vPtr (kSlice (kInt .i64)), x.L⟩) 0 (fun gs_ => [⟨1, vPtr k_aIns, x⟩]) rfl (fun gs_ => l_fa (o_t rfl) fl_aIns_6 fa75_6 (lt rfl)) (fun gs_ => .b rfl rfl (.nil)) .n (fun _ => rfl) rfl (fun _ _ _ => rfl) (.x (f := fun gs_ => ⟨16, vSlice (kInt .i64), x.L⟩) 0 (fun gs_ => [⟨15, vPtr (kSlice (kInt .i64)), x.L⟩]) rfl (fun gs_ => l_ld (o_t rfl) ty22 (lt rfl)) (fun gs_ => .d 12 rfl rfl (.nil)) .n (fun _ => rfl) rfl (fun _ _ _ => rfl) (.x (f := fun gs_ => ⟨17, vSlice (kInt .i64), t3⟩) 0 (fun gs_ => [⟨16, vSlice (kInt .i64), x.L⟩]) rfl (fun gs_ => l_call (ok30 x.L _ h4) (.cons (o_t rfl) (.nil)) (lt rfl)) (fun gs_ => .d 13 rfl rfl (.nil)) .n (fun _ => rfl) rfl (fun _ _ _ => rfl) (.x (f := fun gs_ => ⟨18, vPtr k_aBits, x.Lit⟩) 0 (fun gs_ => [⟨1, vPtr k_aIns, x⟩]) rfl (fun gs_ => l_fa (o_t rfl) fl_aIns_7 fa75_7 (lt rfl)) (fun gs_ => .b rfl rfl (.nil)) .n (fun _ => rfl) rfl (fun _ _ _ => rfl) (.x (f := fun gs_ => ⟨19, (k_aBits).v, x.Lit⟩) 0 (fun gs_ => [⟨18, vPtr k_aBits, x.Lit⟩]) rfl (fun gs_ => l_ld (o_t rfl) ty72 (lt rfl)) (fun gs_ => .d 15 rfl rfl (.nil)) .n (fun _ => rfl) rfl (fun _ _ _ => rfl) (.x (f := fun gs_ => ⟨20, vPtr (kInt .u8), x.By⟩) 0 (fun gs_ => [⟨1, vPtr k_aIns, x⟩]) rfl (fun gs_ => l_fa (o_t rfl) fl_aIns_8 fa75_8 (lt rfl)) (fun gs_ => .b rfl rfl (.nil)) .n (fun _ => rfl) rfl (fun _ _ _ => rfl) (.x (f := fun gs_ => ⟨21, vInt .u8, x.By⟩) 0 (fun gs_ => [⟨20, vPtr (kInt .u8), x.By⟩]) rfl (fun gs_ => l_ld (o_t rfl) ty73 (lt rfl)) (fun gs_ => .d 17 rfl rfl (.nil)) .n (fun _ => rfl) rfl (fun _ _ _ => rfl) (.x (f := fun gs_ => ⟨22, (k_aIns).v, (aIns.mk x.Op x.To x.A x.B x.N x.M t3 x.Lit x.By)⟩) 0 (fun gs_ => [⟨4, vInt .u8, x.Op⟩, ⟨6, vInt .i64, x.To⟩, ⟨8, vInt .i64, x.A⟩, ⟨10, vInt .i64, x.B⟩, ⟨12, vInt .i64, x.N⟩, ⟨14, vInt .i64, x.M⟩, ⟨17, vSlice (kInt .i64), t3⟩, ⟨19, (k_aBits).v, x.Lit⟩, ⟨21, vInt .u8, x.By⟩]) rfl (fun gs_ => l_build zr75 (.cons (o_t rfl) fl_aIns_0 ft75_0 (.cons (o_t rfl) fl_aIns_1 ft75_1 (.cons (o_t rfl) fl_aIns_2 ft75_2 (.cons (o_t rfl) fl_aIns_3 ft75_3 (.cons (o_t rfl) fl_aIns_4 ft75_4 (.cons (o_t rfl) fl_aIns_5 ft75_5 (.cons (o_t rfl) fl_aIns_6 ft75_6 (.cons (o_t rfl) fl_aIns_7 ft75_7 (.cons (o_t rfl) fl_aIns_8 ft75_8 (.nil)))))))))) rfl stb75 (lt rfl)) (fun gs_ => .d 1 rfl rfl (.d 3 rfl rfl (.d 5 rfl rfl (.d 7 rfl rfl (.d 9 rfl rfl (.d 11 rfl rfl (.d 14 rfl rfl (.d 16 rfl rfl (.d 18 rfl rfl (.nil)))))))))) .n (fun _ => rfl) rfl (fun _ _ _ => rfl) (.e (f := fun gs_ => none) 0 (fun gs_ => [⟨2, vLoc, (b1, 0)⟩, ⟨22, (k_aIns).v, (aIns.mk x.Op x.To x.A x.B x.N x.M t3 x.Lit x.By)⟩]) rfl (fun gs_ hg_ => by obtain rfl := len0 hg_; show LocX _ _ _ [rBox b1 75 k_aIns (aIns.mk 0 0 0 0 0 0 [] (aBits.mk 0 0 0) 0)] _ (fun gh900_ => none) (fun gh900_ => [rBox b1 75 k_aIns (aIns.mk x.Op x.To x.A x.B x.N x.M t3 x.Lit x.By)]); exact e_stm (i := 0) (o_t rfl) (o_t rfl) rfl (Fld.refl _) sz75) (fun gs_ => .b rfl rfl (.d 19 rfl rfl (.nil))) .n (fun _ => rfl) rfl (fun _ _ _ => rfl) (.nil)))))))))))))))))))))) (fun gs_ hgs_ => ?_)
  obtain ⟨gh900_, rfl⟩ := len1 hgs_
  show Kx _ _ [rBox b1 75 k_aIns (aIns.mk x.Op x.To x.A x.B x.N x.M t3 x.Lit x.By)] _ _
  refine k_seq ?_
  cases hp_
  exact t_ret (k_frzb (s := 2) (i := 0) rfl rfl <| k_drop <| k_retc () rfl ty75 rfl rfl rfl rfl)
-- pointsman/pointsmanlaw01.TwinInses
theorem ok33 (l : List aIns) (y_ : List aIns) (hp_ : pointsmanlaw01_TwinInses l = some y_) : FP Tryz.prog 33 [⟨vSlice k_aIns, l⟩] (vSlice k_aIns) y_ := by
  unfold pointsmanlaw01_TwinInses at hp_
  refine fc_of 30 Tryz.func33 rfl fn33 rfl (Nat.le_of_ble_eq_true rfl) fun I_ w_ F_ => ?_
  refine t_seq ?_
  refine t_reg ?_
  refine st (l_assign (o_nil (K := k_aIns)) (lt rfl)) ?_
  refine r_nil (k_seq ?_)
  refine t_seq ?_
  refine t_reg ?_
  refine st (l_move (o_t rfl) (lt rfl)) ?_
  refine st (l_lens (o_t rfl) sl25 (lt rfl)) ?_
  refine st (l_bin (o_t rfl) (o_i) .add (lt rfl)) ?_
  rcases bt (mkFits 104 (IntKind.wrap .i64 ((l.length : Int) + (1 : Int)))) with hc1 | hc1
  · rw [if_neg (nt hc1)] at hp_; cases hp_
  rw [if_pos hc1] at hp_
  refine r_mk0 el25 (o_i) (o_t rfl) hc1 (lt rfl) (fun o2 => ?_)
  refine st (l_assign (o_t rfl) (lt rfl)) ?_
  refine r_nil (k_seq ?_)
  refine t_seq ?_
  refine t_seq ?_
  refine t_reg ?_
  refine st (l_assign (o_i) (lt rfl)) ?_
  refine r_nil (k_seq ?_)
  obtain ⟨res1_, hl1_0, hx1_⟩ := bs hp_
  clear hp_
  refine t_sub (Γ' := [⟨4, vInt .i64, (0 : Int)⟩, ⟨0, vSlice k_aIns, l⟩, ⟨3, kVal.v, o2⟩]) (Sub.cons rfl (Sub.cons rfl (Sub.cons rfl (Sub.nil _)))) ?_
  refine t_bloop (β := Nat × Int × (List aIns) × Value) (σ := (List aIns) × Value) (fun x_ => [⟨4, vInt .i64, x_.2.1⟩, ⟨0, vSlice k_aIns, l⟩, ⟨3, kVal.v, x_.2.2.2⟩]) (fun x_ => [rArr x_.2.2.2 75 k_aIns x_.2.2.1]) (fun x_ => pointsmanlaw01_TwinInses.l1 x_.1 l x_.2.1 x_.2.2.1 = some res1_) (fun x_ => x_.1) (fun x_ => [⟨0, vSlice k_aIns, l⟩, ⟨3, kVal.v, x_.2⟩]) (fun x_ => [rArr x_.2 75 k_aIns x_.1]) (fun x_ => res1_ = x_.1) ?_ ?_ ((((l.length : Int) - (0 : Int)).toNat + 1), (0 : Int), [], o2) hl1_0
  · rintro ⟨k1_, v4_1, w3_1, g3_1⟩ hl1_
    rcases k1_ with _ | k1_
    · exact absurd (show none = some res1_ from hl1_) (by simp)
    replace hl1_ : pointsmanlaw01_TwinInses.l1 (k1_ + 1) l v4_1 w3_1 = some res1_ := hl1_
    rw [pointsmanlaw01_TwinInses.l1.eq_2] at hl1_
    show Tr Tryz.prog _ [⟨4, vInt .i64, v4_1⟩, ⟨0, vSlice k_aIns, l⟩, ⟨3, kVal.v, g3_1⟩] [rArr g3_1 75 k_aIns w3_1] _ _
    refine t_seq ?_
    refine t_seq ?_
    refine t_reg ?_
    refine st (l_move (o_t rfl) (lt rfl)) ?_
    refine st (l_move (o_t rfl) (lt rfl)) ?_
    refine st (l_lens (o_t rfl) sl25 (lt rfl)) ?_
    refine st (l_cmp (o_t rfl) (o_t rfl) .lss (lt rfl)) ?_
    refine r_nil (k_seq ?_)
    rcases bt (decide (v4_1 < (l.length : Int))) with hb4 | hb4
    · rw [if_neg (nt hb4)] at hl1_
      refine t_iff (o_t rfl) hb4 ?_
      exact t_exit (k_te <| k_te <| k_be <| k_brk (w3_1, g3_1) (Option.some.inj hl1_).symm (Sub.cons rfl (Sub.cons rfl (Sub.nil _))) rfl)
    · rw [if_pos hb4] at hl1_
      refine t_ift (o_t rfl) hb4 ?_
      refine t_skip (k_seq ?_)
      refine t_seq ?_
      refine t_blk ?_
      refine t_reg ?_
      refine st (l_move (o_t rfl) (lt rfl)) ?_
      refine st (l_move (o_t rfl) (lt rfl)) ?_
      refine st (l_move (o_t rfl) (lt rfl)) ?_
      obtain ⟨t5, h6, hl1_⟩ := bs hl1_
      refine st (l_ia (o_t rfl) (o_t rfl) h6 sl25 sz75 (lt rfl)) ?_
      refine st (l_ld (o_t rfl) ty75 (lt rfl)) ?_
      obtain ⟨t7, h8, hl1_⟩ := bs hl1_
      refine st (l_call (ok69 t5 _ h8) (.cons (o_t rfl) (.nil)) (lt rfl)) ?_
      refine st (l_bslice (.cons (o_t rfl) (.nil)) rfl (Nat.le_of_ble_eq_true rfl) (lt rfl) sl25 zb75 sz75 (lt rfl)) ?_
      rcases bt (appFits 104 w3_1.length 1) with hc9 | hc9
      · rw [if_neg (nt hc9)] at hl1_; cases hl1_
      rw [if_pos hc9] at hl1_
      refine r_app (i := 0) el25 rfl (o_t rfl) (o_t rfl) rfl (by simp) hc9 (lt rfl) (fun o10 => ?_)
      refine st (l_assign (o_t rfl) (lt rfl)) ?_
      refine r_nil (k_bn <| k_seq ?_)
      refine t_reg ?_
      refine st (l_move (o_t rfl) (lt rfl)) ?_
      refine st (l_bin (o_t rfl) (o_i) .add (lt rfl)) ?_
      refine st (l_assign (o_t rfl) (lt rfl)) ?_
      exact r_nil (k_again (k1_, IntKind.wrap .i64 (v4_1 + (1 : Int)), (w3_1 ++ [t7]), o10) hl1_ (Nat.lt_succ_self _) (Sub.cons rfl (Sub.cons rfl (Sub.cons rfl (Sub.nil _)))) rfl)
  · rintro ⟨s1_, g3_1⟩ hs1_
    replace hs1_ : s1_ = res1_ := Eq.symm hs1_
    subst hs1_
    have hp_ := hx1_
    clear hx1_
    show Kx _ [⟨0, vSlice k_aIns, l⟩, ⟨3, kVal.v, g3_1⟩] [rArr g3_1 75 k_aIns s1_] _ _
    refine k_seq ?_
    refine t_seq ?_
    refine t_reg ?_
    refine st (l_move (o_t rfl) (lt rfl)) ?_
    refine st (l_build zr75 (.cons (o_i) fl_aIns_1 ft75_1 (.nil)) rfl stb75 (lt rfl)) ?_
    refine st (l_bslice (.cons (o_t rfl) (.nil)) rfl (Nat.le_of_ble_eq_true rfl) (lt rfl) sl25 zb75 sz75 (lt rfl)) ?_
    rcases bt (appFits 104 s1_.length 1) with hc11 | hc11
    · rw [if_neg (nt hc11)] at hp_; cases hp_
    rw [if_pos hc11] at hp_
    refine r_app (i := 0) el25 rfl (o_t rfl) (o_t rfl) rfl (by simp) hc11 (lt rfl) (fun o12 => ?_)
    refine st (l_move (o_t rfl) (lt rfl)) ?_
    refine st (l_lens (o_t rfl) sl25 (lt rfl)) ?_
    rcases bt (decide (0 ≤ (l.length : Int)) && decide ((l.length : Int) ≤ ((s1_ ++ [(aIns.mk 0 (77 : Int) 0 0 0 0 [] (aBits.mk 0 0 0) 0)]).length : Int))) with hc13 | hc13
    · rw [if_neg (nt hc13)] at hp_; cases hp_
    rw [if_pos hc13] at hp_
    refine r_slo (i := 0) (o_t rfl) rfl (oo_s (o_t rfl)) hc13 sl25 sz75 (lt rfl) (fun o14 => ?_)
    refine st (l_assign (o_t rfl) (lt rfl)) ?_
    refine r_nil (k_seq ?_)
    cases hp_
    exact t_ret (k_frz (s := 2) (i := 0) rfl rfl <| k_drop <| k_ret () rfl rfl rfl rfl rfl)
-- pointsman/pointsmanlaw01.TwinJumps
theorem ok104 (l : List aJump) (y_ : List aJump) (hp_ : pointsmanlaw01_TwinJumps l = some y_) : FP Tryz.prog 104 [⟨vSlice k_aJump, l⟩] (vSlice k_aJump) y_ := by
  unfold pointsmanlaw01_TwinJumps at hp_
  refine fc_of 29 Tryz.func104 rfl fn104 rfl (Nat.le_of_ble_eq_true rfl) fun I_ w_ F_ => ?_
  refine t_seq ?_
  refine t_reg ?_
  refine st (l_assign (o_nil (K := k_aJump)) (lt rfl)) ?_
  refine r_nil (k_seq ?_)
  refine t_seq ?_
  refine t_reg ?_
  refine st (l_move (o_t rfl) (lt rfl)) ?_
  refine st (l_lens (o_t rfl) sl52 (lt rfl)) ?_
  refine st (l_bin (o_t rfl) (o_i) .add (lt rfl)) ?_
  rcases bt (mkFits 56 (IntKind.wrap .i64 ((l.length : Int) + (1 : Int)))) with hc1 | hc1
  · rw [if_neg (nt hc1)] at hp_; cases hp_
  rw [if_pos hc1] at hp_
  refine r_mk0 el52 (o_i) (o_t rfl) hc1 (lt rfl) (fun o2 => ?_)
  refine st (l_assign (o_t rfl) (lt rfl)) ?_
  refine r_nil (k_seq ?_)
  refine t_seq ?_
  refine t_seq ?_
  refine t_reg ?_
  refine st (l_assign (o_i) (lt rfl)) ?_
  refine r_nil (k_seq ?_)
  obtain ⟨res1_, hl1_0, hx1_⟩ := bs hp_
  clear hp_
  refine t_sub (Γ' := [⟨4, vInt .i64, (0 : Int)⟩, ⟨0, vSlice k_aJump, l⟩, ⟨3, kVal.v, o2⟩]) (Sub.cons rfl (Sub.cons rfl (Sub.cons rfl (Sub.nil _)))) ?_
  refine t_bloop (β := Nat × Int × (List aJump) × Value) (σ := (List aJump) × Value) (fun x_ => [⟨4, vInt .i64, x_.2.1⟩, ⟨0, vSlice k_aJump, l⟩, ⟨3, kVal.v, x_.2.2.2⟩]) (fun x_ => [rArr x_.2.2.2 99 k_aJump x_.2.2.1]) (fun x_ => pointsmanlaw01_TwinJumps.l1 x_.1 l x_.2.1 x_.2.2.1 = some res1_) (fun x_ => x_.1) (fun x_ => [⟨0, vSlice k_aJump, l⟩, ⟨3, kVal.v, x_.2⟩]) (fun x_ => [rArr x_.2 99 k_aJump x_.1]) (fun x_ => res1_ = x_.1) ?_ ?_ ((((l.length : Int) - (0 : Int)).toNat + 1), (0 : Int), [], o2) hl1_0
  · rintro ⟨k1_, v4_1, w3_1, g3_1⟩ hl1_
    rcases k1_ with _ | k1_
    · exact absurd (show none = some res1_ from hl1_) (by simp)
    replace hl1_ : pointsmanlaw01_TwinJumps.l1 (k1_ + 1) l v4_1 w3_1 = some res1_ := hl1_
    rw [pointsmanlaw01_TwinJumps.l1.eq_2] at hl1_
    show Tr Tryz.prog _ [⟨4, vInt .i64, v4_1⟩, ⟨0, vSlice k_aJump, l⟩, ⟨3, kVal.v, g3_1⟩] [rArr g3_1 99 k_aJump w3_1] _ _
    refine t_seq ?_
    refine t_seq ?_
    refine t_reg ?_
    refine st (l_move (o_t rfl) (lt rfl)) ?_
    refine st (l_move (o_t rfl) (lt rfl)) ?_
    refine st (l_lens (o_t rfl) sl52 (lt rfl)) ?_
    refine st (l_cmp (o_t rfl) (o_t rfl) .lss (lt rfl)) ?_
    refine r_nil (k_seq ?_)
    rcases bt (decide (v4_1 < (l.length : Int))) with hb4 | hb4
    · rw [if_neg (nt hb4)] at hl1_
      refine t_iff (o_t rfl) hb4 ?_
      exact t_exit (k_te <| k_te <| k_be <| k_brk (w3_1, g3_1) (Option.some.inj hl1_).symm (Sub.cons rfl (Sub.cons rfl (Sub.nil _))) rfl)
    · rw [if_pos hb4] at hl1_
      refine t_ift (o_t rfl) hb4 ?_
      refine t_skip (k_seq ?_)
      refine t_seq ?_
      refine t_blk ?_
      refine t_reg ?_
      refine st (l_move (o_t rfl) (lt rfl)) ?_
      refine st (l_move (o_t rfl) (lt rfl)) ?_
      refine st (l_move (o_t rfl) (lt rfl)) ?_
      obtain ⟨t5, h6, hl1_⟩ := bs hl1_
      refine st (l_ia (o_t rfl) (o_t rfl) h6 sl52 sz99 (lt rfl)) ?_
      refine st (l_ld (o_t rfl) ty99 (lt rfl)) ?_
      refine st (l_bslice (.cons (o_t rfl) (.nil)) rfl (Nat.le_of_ble_eq_true rfl) (lt rfl) sl52 zb99 sz99 (lt rfl)) ?_
      rcases bt (appFits 56 w3_1.length 1) with hc7 | hc7
      · rw [if_neg (nt hc7)] at hl1_; cases hl1_
      rw [if_pos hc7] at hl1_
      refine r_app (i := 0) el52 rfl (o_t rfl) (o_t rfl) rfl (by simp) hc7 (lt rfl) (fun o8 => ?_)
      refine st (l_assign (o_t rfl) (lt rfl)) ?_
      refine r_nil (k_bn <| k_seq ?_)
      refine t_reg ?_
      refine st (l_move (o_t rfl) (lt rfl)) ?_
      refine st (l_bin (o_t rfl) (o_i) .add (lt rfl)) ?_
      refine st (l_assign (o_t rfl) (lt rfl)) ?_
      exact r_nil (k_again (k1_, IntKind.wrap .i64 (v4_1 + (1 : Int)), (w3_1 ++ [t5]), o8) hl1_ (Nat.lt_succ_self _) (Sub.cons rfl (Sub.cons rfl (Sub.cons rfl (Sub.nil _)))) rfl)
  · rintro ⟨s1_, g3_1⟩ hs1_
    replace hs1_ : s1_ = res1_ := Eq.symm hs1_
    subst hs1_
    have hp_ := hx1_
    clear hx1_
    show Kx _ [⟨0, vSlice k_aJump, l⟩, ⟨3, kVal.v, g3_1⟩] [rArr g3_1 99 k_aJump s1_] _ _
    refine k_seq ?_
    refine t_seq ?_
    refine t_reg ?_
    refine st (l_move (o_t rfl) (lt rfl)) ?_
    refine st (l_build zr99 (.cons (o_i) fl_aJump_2 ft99_2 (.nil)) rfl stb99 (lt rfl)) ?_
    refine st (l_bslice (.cons (o_t rfl) (.nil)) rfl (Nat.le_of_ble_eq_true rfl) (lt rfl) sl52 zb99 sz99 (lt rfl)) ?_
    rcases bt (appFits 56 s1_.length 1) with hc9 | hc9
    · rw [if_neg (nt hc9)] at hp_; cases hp_
    rw [if_pos hc9] at hp_
    refine r_app (i := 0) el52 rfl (o_t rfl) (o_t rfl) rfl (by simp) hc9 (lt rfl) (fun o10 => ?_)
    refine st (l_move (o_t rfl) (lt rfl)) ?_
    refine st (l_lens (o_t rfl) sl52 (lt rfl)) ?_
    rcases bt (decide (0 ≤ (l.length : Int)) && decide ((l.length : Int) ≤ ((s1_ ++ [(aJump.mk (aBits.mk 0 0 0) (aBits.mk 0 0 0) (77 : Int))]).length : Int))) with hc11 | hc11
    · rw [if_neg (nt hc11)] at hp_; cases hp_
    rw [if_pos hc11] at hp_
    refine r_slo (i := 0) (o_t rfl) rfl (oo_s (o_t rfl)) hc11 sl52 sz99 (lt rfl) (fun o12 => ?_)
    refine st (l_assign (o_t rfl) (lt rfl)) ?_
    refine r_nil (k_seq ?_)
    cases hp_
    exact t_ret (k_frz (s := 2) (i := 0) rfl rfl <| k_drop <| k_ret () rfl rfl rfl rfl rfl)
-- pointsman/pointsmanlaw01.TwinNode
theorem ok68 (x : aNode) (y_ : aNode) (hp_ : pointsmanlaw01_TwinNode x = some y_) : FP Tryz.prog 68 [⟨(k_aNode).v, x⟩] ((k_aNode).v) y_ := by
  unfold pointsmanlaw01_TwinNode at hp_
  refine fc_of 17 Tryz.func68 rfl fn68 rfl (Nat.le_of_ble_eq_true rfl) fun I_ w_ F_ => ?_
  refine t_seq ?_
  refine t_reg ?_
  refine st (l_box (o_t rfl) (lt rfl)) ?_
  refine r_alloc zr54 (lt rfl) (fun b1 => ?_)
  refine r_nil (k_seq ?_)
  refine t_seq ?_
  obtain ⟨t3, h4, hp_⟩ := bs hp_
  obtain ⟨t5, h6, hp_⟩ := bs hp_
  obtain ⟨t7, h8, hp_⟩ := bs hp_
  refine t_draw [(0, fun gs_ => some ⟨3, vPtr (kSlice (kInt .i64)), x.Heads⟩), (0, fun gs_ => some ⟨4, vSlice (kInt .i64), x.Heads⟩), (0, fun gs_ => some ⟨5, vSlice (kInt .i64), t3⟩), (0, fun gs_ => some ⟨6, vPtr (kSlice k_aIns), x.Code⟩), (0, fun gs_ => some ⟨7, vSlice k_aIns, x.Code⟩), (0, fun gs_ => some ⟨8, vSlice k_aIns, t5⟩), (0, fun gs_ => some ⟨9, vPtr (kInt .i64), x.Slot⟩), (0, fun gs_ => some ⟨10, vInt .i64, x.Slot⟩), (0, fun gs_ => some ⟨11, vPtr (kSlice k_aJump), x.Cases⟩), (0, fun gs_ => some ⟨12, vSlice k_aJump, x.Cases⟩), (0, fun gs_ => some ⟨13, vSlice k_aJump, t7⟩), (0, fun gs_ => some ⟨14, vPtr (kInt .i64), x.To⟩), (0, fun gs_ => some ⟨15, vInt .i64, x.To⟩), (0, fun gs_ => some ⟨16, (k_aNode).v, (aNode.mk t3 t5 x.Slot t7 x.To)⟩), (1, fun gs_ => none)] mixed rfl rfl (fun gs_ => [] ++ ph gs_ [fun gs_ => [rBox b1 54 k_aNode (aNode.mk [] [] 0 [] 0)], fun gs_ => [rBox b1 54 k_aNode (aNode.mk t3 t5 x.Slot t7 x.To)]]) [14] rfl (.x (f := fun gs_ => ⟨3, vPtr (kSlice (kInt .i64)), x.Heads⟩) 0 (fun gs_ => [⟨1, vPtr k_aNode, x⟩]) rfl (fun gs_ => l_fa (o_t rfl) fl_aNode_0 fa54_0 (lt rfl)) (fun gs_ => .b rfl rfl (.nil)) .n (fun _ => rfl) rfl (fun _ _ _ => rfl) (.x (f := fun gs_ => ⟨4, vSlice (kInt .i64), x.Heads⟩) 0 (fun gs_ => [⟨3, vPtr (kSlice (kInt .i64)), x.Heads⟩]) rfl (fun gs_ => l_ld (o_t rfl) ty22 (lt rfl)) (fun gs_ => .d 0 rfl rfl (.nil)) .n (fun _ => rfl) rfl (fun _ _ _ => rfl) (.x (f := fun gs_ => ⟨5, vSlice (kInt .i64), t3⟩) 0 (fun gs_ => [⟨4, vSlice (kInt .i64), x.Heads⟩]) rfl (fun gs_ => l_call (ok30 x.Heads _ h4) (.cons (o_t rfl) (.nil)) (lt rfl)) (fun gs_ => .d 1 rfl rfl (.nil)) .n (fun _ => rfl) rfl (fun _ _ _ => rfl) (.x (f := fun gs_ => ⟨6, vPtr (kSlice k_aIns), x.Code⟩) 0 (fun gs_ => [⟨1, vPtr k_aNode, x⟩]) rfl (fun gs_ => l_fa (o_t rfl) fl_aNode_1 fa54_1 (lt rfl)) (fun gs_ => .b rfl rfl (.nil)) .n (fun _ => rfl) rfl (fun _ _ _ => rfl) (.x (f := fun gs_ => ⟨7, vSlice k_aIns, x.Code⟩) 0 (fun gs_ => [⟨6, vPtr (kSlice k_aIns), x.Code⟩]) rfl (fun gs_ => l_ld (o_t rfl) ty25 (lt rfl)) (fun gs_ => .d 3 rfl rfl (.nil)) .n (fun _ => rfl) rfl (fun _ _ _ => rfl) (.x (f := fun gs_ => ⟨8, vSlice k_aIns, t5⟩) 0 (fun gs_ => [⟨7, vSlice k_aIns, x.Code⟩]) rfl (fun gs_ => l_call (ok33 x.Code _ h6) (.cons (o_t rfl) (.nil)) (lt rfl)) (fun gs_ => .d 4 rfl rfl (.nil)) .n (fun _ => rfl) rfl (fun _ _ _ => rfl) (.x (f := fun gs_ => ⟨9, vPtr (kInt .i64), x.Slot⟩) 0 (fun gs_ => [⟨1, vPtr k_aNode, x⟩]) rfl (fun gs_ => l_fa (o_t rfl) fl_aNode_2 fa54_2 (lt rfl)) (fun gs_ => .b rfl rfl (.nil)) .n (fun _ => rfl) rfl (fun _ _ _ => rfl) (.x (f := fun gs_ => ⟨10, vInt .i64, x.Slot⟩) 0 (fun gs_ => [⟨9, vPtr (kInt .i64), x.Slot⟩]) rfl (fun gs_ => l_ld (o_t rfl) ty3 (lt rfl)) (fun gs_ => .d 6 rfl rfl (.nil)) .n (fun _ => rfl) rfl (fun _ _ _ => rfl) (.x (f := fun gs_ => ⟨11, vPtr (kSlice k_aJump), x.Cases⟩) 0 (fun gs_ => [⟨1, vPtr k_aNode, x⟩]) rfl (fun gs_ => l_fa (o_t rfl) fl_aNode_3 fa54_3 (lt rfl)) (fun gs_ => .b rfl rfl (.nil)) .n (fun _ => rfl) rfl (fun _ _ _ => rfl) (.x (f := fun gs_ => ⟨12, vSlice k_aJump, x.Cases⟩) 0 (fun gs_ => [⟨11, vPtr (kSlice k_aJump), x.Cases⟩]) rfl (fun gs_ => l_ld (o_t rfl) ty52 (lt rfl)) (fun gs_ => .d 8 rfl rfl (.nil)) .n (fun _ => rfl) rfl (fun _ _ _ => rfl) (.x (f := fun gs_ => ⟨13, vSlice k_aJump, t7⟩) 0 (fun gs_ => [⟨12, vSlice k_aJump, x.Cases⟩]) rfl (fun gs_ => l_call (ok104 x.Cases _ h8) (.cons (o_t rfl) (.nil)) (lt rfl)) (fun gs_ => .d 9 rfl rfl (.nil)) .n (fun _ => rfl) rfl (fun _ _ _ => rfl) (.x (f := fun gs_ => ⟨14, vPtr (kInt .i64), x.To⟩) 0 (fun gs_ => [⟨1, vPtr k_aNode, x⟩]) rfl (fun gs_ => l_fa (o_t rfl) fl_aNode_4 fa54_4 (lt rfl)) (fun gs_ => .b rfl rfl (.nil)) .n (fun _ => rfl) rfl (fun _ _ _ => rfl) (.x (f := fun gs_ => ⟨15, vInt .i64, x.To⟩) 0 (fun gs_ => [⟨14, vPtr (kInt .i64), x.To⟩]) rfl (fun gs_ => l_ld (o_t rfl) ty3 (lt rfl)) (fun gs_ => .d 11 rfl rfl (.nil)) .n (fun _ => rfl) rfl (fun _ _ _ => rfl) (.x (f := fun gs_ => ⟨16, (k_aNode).v, (aNode.mk t3 t5 x.Slot t7 x.To)⟩) 0 (fun gs_ => [⟨5, vSlice (kInt .i64), t3⟩, ⟨8, vSlice k_aIns, t5⟩, ⟨10, vInt .i64, x.Slot⟩, ⟨13, vSlice k_aJump, t7⟩, ⟨15, vInt .i64, x.To⟩]) rfl (fun gs_ => l_build zr54 (.cons (o_t rfl) fl_aNode_0 ft54_0 (.cons (o_t rfl) fl_aNode_1 ft54_1 (.cons (o_t rfl) fl_aNode_2 ft54_2 (.cons (o_t rfl) fl_aNode_3 ft54_3 (.cons (o_t rfl) fl_aNode_4 ft54_4 (.nil)))))) rfl stb54 (lt rfl)) (fun gs_ => .d 2 rfl rfl (.d 5 rfl rfl (.d 7 rfl rfl (.d 10 rfl rfl (.d 12 rfl rfl (.nil)))))) .n (fun _ => rfl) rfl (fun _ _ _ => rfl) (.e (f := fun gs_ => none) 0 (fun gs_ => [⟨2, vLoc, (b1, 0)⟩, ⟨16, (k_aNode).v, (aNode.mk t3 t5 x.Slot t7 x.To)⟩]) rfl (fun gs_ hg_ => by obtain rfl := len0 hg_; show LocX _ _ _ [rBox b1 54 k_aNode (aNode.mk [] [] 0 [] 0)] _ (fun gh900_ => none) (fun gh900_ => [rBox b1 54 k_aNode (aNode.mk t3 t5 x.Slot t7 x.To)]); exact e_stm (i := 0) (o_t rfl) (o_t rfl) rfl (Fld.refl _) sz54) (fun gs_ => .b rfl rfl (.d 13 rfl rfl (.nil))) .n (fun _ => rfl) rfl (fun _ _ _ => rfl) (.nil)))))))))))))))) (fun gs_ hgs_ => ?_)
  obtain ⟨gh900_, rfl⟩ := len1 hgs_
  show Kx _ _ [rBox b1 54 k_aNode (aNode.mk t3 t5 x.Slot t7 x.To)] _ _
  refine k_seq ?_
  cases hp_
  exact t_ret (k_frzb (s := 2) (i := 0) rfl rfl <| k_drop <| k_retc () rfl ty54 rfl rfl rfl rfl)
-- pointsman/pointsmanlaw01.TwinNodes
theorem ok32 (l : List aNode) (y_ : List aNode) (hp_ : pointsmanlaw01_TwinNodes l = some y_) : FP Tryz.prog 32 [⟨vSlice k_aNode, l⟩] (vSlice k_aNode) y_ := by
  unfold pointsmanlaw01_TwinNodes at hp_
  refine fc_of 30 Tryz.func32 rfl fn32 rfl (Nat.le_of_ble_eq_true rfl) fun I_ w_ F_ => ?_
  refine t_seq ?_
  refine t_reg ?_
  refine st (l_assign (o_nil (K := k_aNode)) (lt rfl)) ?_
  refine r_nil (k_seq ?_)
  refine t_seq ?_
  refine t_reg ?_
  refine st (l_move (o_t rfl) (lt rfl)) ?_
  refine st (l_lens (o_t rfl) sl24 (lt rfl)) ?_
  refine st (l_bin (o_t rfl) (o_i) .add (lt rfl)) ?_
  rcases bt (mkFits 88 (IntKind.wrap .i64 ((l.length : Int) + (1 : Int)))) with hc1 | hc1
  · rw [if_neg (nt hc1)] at hp_; cases hp_
  rw [if_pos hc1] at hp_
  refine r_mk0 el24 (o_i) (o_t rfl) hc1 (lt rfl) (fun o2 => ?_)
  refine st (l_assign (o_t rfl) (lt rfl)) ?_
  refine r_nil (k_seq ?_)
  refine t_seq ?_
  refine t_seq ?_
  refine t_reg ?_
  refine st (l_assign (o_i) (lt rfl)) ?_
  refine r_nil (k_seq ?_)
  obtain ⟨res1_, hl1_0, hx1_⟩ := bs hp_
  clear hp_
  refine t_sub (Γ' := [⟨4, vInt .i64, (0 : Int)⟩, ⟨0, vSlice k_aNode, l⟩, ⟨3, kVal.v, o2⟩]) (Sub.cons rfl (Sub.cons rfl (Sub.cons rfl (Sub.nil _)))) ?_
  refine t_bloop (β := Nat × Int × (List aNode) × Value) (σ := (List aNode) × Value) (fun x_ => [⟨4, vInt .i64, x_.2.1⟩, ⟨0, vSlice k_aNode, l⟩, ⟨3, kVal.v, x_.2.2.2⟩]) (fun x_ => [rArr x_.2.2.2 54 k_aNode x_.2.2.1]) (fun x_ => pointsmanlaw01_TwinNodes.l1 x_.1 l x_.2.1 x_.2.2.1 = some res1_) (fun x_ => x_.1) (fun x_ => [⟨0, vSlice k_aNode, l⟩, ⟨3, kVal.v, x_.2⟩]) (fun x_ => [rArr x_.2 54 k_aNode x_.1]) (fun x_ => res1_ = x_.1) ?_ ?_ ((((l.length : Int) - (0 : Int)).toNat + 1), (0 : Int), [], o2) hl1_0
  · rintro ⟨k1_, v4_1, w3_1, g3_1⟩ hl1_
    rcases k1_ with _ | k1_
    · exact absurd (show none = some res1_ from hl1_) (by simp)
    replace hl1_ : pointsmanlaw01_TwinNodes.l1 (k1_ + 1) l v4_1 w3_1 = some res1_ := hl1_
    rw [pointsmanlaw01_TwinNodes.l1.eq_2] at hl1_
    show Tr Tryz.prog _ [⟨4, vInt .i64, v4_1⟩, ⟨0, vSlice k_aNode, l⟩, ⟨3, kVal.v, g3_1⟩] [rArr g3_1 54 k_aNode w3_1] _ _
    refine t_seq ?_
    refine t_seq ?_
    refine t_reg ?_
    refine st (l_move (o_t rfl) (lt rfl)) ?_
    refine st (l_move (o_t rfl) (lt rfl)) ?_
    refine st (l_lens (o_t rfl) sl24 (lt rfl)) ?_
    refine st (l_cmp (o_t rfl) (o_t rfl) .lss (lt rfl)) ?_
    refine r_nil (k_seq ?_)
    rcases bt (decide (v4_1 < (l.length : Int))) with hb4 | hb4
    · rw [if_neg (nt hb4)] at hl1_
      refine t_iff (o_t rfl) hb4 ?_
      exact t_exit (k_te <| k_te <| k_be <| k_brk (w3_1, g3_1) (Option.some.inj hl1_).symm (Sub.cons rfl (Sub.cons rfl (Sub.nil _))) rfl)
    · rw [if_pos hb4] at hl1_
      refine t_ift (o_t rfl) hb4 ?_
      refine t_skip (k_seq ?_)
      refine t_seq ?_
      refine t_blk ?_
      refine t_reg ?_
      refine st (l_move (o_t rfl) (lt rfl)) ?_
      refine st (l_move (o_t rfl) (lt rfl)) ?_
      refine st (l_move (o_t rfl) (lt rfl)) ?_
      obtain ⟨t5, h6, hl1_⟩ := bs hl1_
      refine st (l_ia (o_t rfl) (o_t rfl) h6 sl24 sz54 (lt rfl)) ?_
      refine st (l_ld (o_t rfl) ty54 (lt rfl)) ?_
      obtain ⟨t7, h8, hl1_⟩ := bs hl1_
      refine st (l_call (ok68 t5 _ h8) (.cons (o_t rfl) (.nil)) (lt rfl)) ?_
      refine st (l_bslice (.cons (o_t rfl) (.nil)) rfl (Nat.le_of_ble_eq_true rfl) (lt rfl) sl24 zb54 sz54 (lt rfl)) ?_
      rcases bt (appFits 88 w3_1.length 1) with hc9 | hc9
      · rw [if_neg (nt hc9)] at hl1_; cases hl1_
      rw [if_pos hc9] at hl1_
      refine r_app (i := 0) el24 rfl (o_t rfl) (o_t rfl) rfl (by simp) hc9 (lt rfl) (fun o10 => ?_)
      refine st (l_assign (o_t rfl) (lt rfl)) ?_
      refine r_nil (k_bn <| k_seq ?_)
      refine t_reg ?_
      refine st (l_move (o_t rfl) (lt rfl)) ?_
      refine st (l_bin (o_t rfl) (o_i) .add (lt rfl)) ?_
      refine st (l_assign (o_t rfl) (lt rfl)) ?_
      exact r_nil (k_again (k1_, IntKind.wrap .i64 (v4_1 + (1 : Int)), (w3_1 ++ [t7]), o10) hl1_ (Nat.lt_succ_self _) (Sub.cons rfl (Sub.cons rfl (Sub.cons rfl (Sub.nil _)))) rfl)
  · rintro ⟨s1_, g3_1⟩ hs1_
    replace hs1_ : s1_ = res1_ := Eq.symm hs1_
    subst hs1_
    have hp_ := hx1_
    clear hx1_
    show Kx _ [⟨0, vSlice k_aNode, l⟩, ⟨3, kVal.v, g3_1⟩] [rArr g3_1 54 k_aNode s1_] _ _
    refine k_seq ?_
    refine t_seq ?_
    refine t_reg ?_
    refine st (l_move (o_t rfl) (lt rfl)) ?_
    refine st (l_build zr54 (.cons (o_i) fl_aNode_2 ft54_2 (.nil)) rfl stb54 (lt rfl)) ?_
    refine st (l_bslice (.cons (o_t rfl) (.nil)) rfl (Nat.le_of_ble_eq_true rfl) (lt rfl) sl24 zb54 sz54 (lt rfl)) ?_
    rcases bt (appFits 88 s1_.length 1) with hc11 | hc11
    · rw [if_neg (nt hc11)] at hp_; cases hp_
    rw [if_pos hc11] at hp_
    refine r_app (i := 0) el24 rfl (o_t rfl) (o_t rfl) rfl (by simp) hc11 (lt rfl) (fun o12 => ?_)
    refine st (l_move (o_t rfl) (lt rfl)) ?_
    refine st (l_lens (o_t rfl) sl24 (lt rfl)) ?_
    rcases bt (decide (0 ≤ (l.length : Int)) && decide ((l.length : Int) ≤ ((s1_ ++ [(aNode.mk [] [] (77 : Int) [] 0)]).length : Int))) with hc13 | hc13
    · rw [if_neg (nt hc13)] at hp_; cases hp_
    rw [if_pos hc13] at hp_
    refine r_slo (i := 0) (o_t rfl) rfl (oo_s (o_t rfl)) hc13 sl24 sz54 (lt rfl) (fun o14 => ?_)
    refine st (l_assign (o_t rfl) (lt rfl)) ?_
    refine r_nil (k_seq ?_)
    cases hp_
    exact t_ret (k_frz (s := 2) (i := 0) rfl rfl <| k_drop <| k_ret () rfl rfl rfl rfl rfl)
-- pointsman/pointsmanlaw01.TwinAct
theorem ok70 (x : aAct) (y_ : aAct) (hp_ : pointsmanlaw01_TwinAct x = some y_) : FP Tryz.prog 70 [⟨(k_aAct).v, x⟩] ((k_aAct).v) y_ := by
  unfold pointsmanlaw01_TwinAct at hp_
  refine fc_of 12 Tryz.func70 rfl fn70 rfl (Nat.le_of_ble_eq_true rfl) fun I_ w_ F_ => ?_
  refine t_seq ?_
  refine t_reg ?_
  refine st (l_box (o_t rfl) (lt rfl)) ?_
  refine r_alloc zr41 (lt rfl) (fun b1 => ?_)
  refine r_nil (k_seq ?_)
  refine t_seq ?_
  obtain ⟨t3, h4, hp_⟩ := bs hp_
  obtain ⟨t5, h6, hp_⟩ := bs hp_
  refine t_draw [(0, fun gs_ => some ⟨3, vPtr kStr, x.Name⟩), (0, fun gs_ => some ⟨4, vStr, x.Name⟩), (0, fun gs_ => some ⟨5, vPtr (kSlice (kInt .i64)), x.Params⟩), (0, fun gs_ => some ⟨6, vSlice (kInt .i64), x.Params⟩), (0, fun gs_ => some ⟨7, vSlice (kInt .i64), t3⟩), (0, fun gs_ => some ⟨8, vPtr (kSlice k_aIns), x.Code⟩), (0, fun gs_ => some ⟨9, vSlice k_aIns, x.Code⟩), (0, fun gs_ => some ⟨10, vSlice k_aIns, t5⟩), (0, fun gs_ => some ⟨11, (k_aAct).v, (aAct.mk x.Name t3 t5)⟩), (1, fun gs_ => none)] mixed rfl rfl (fun gs_ => [] ++ ph gs_ [fun gs_ => [rBox b1 41 k_aAct (aAct.mk ByteArray.empty [] [])], fun gs_ => [rBox b1 41 k_aAct (aAct.mk x.Name t3 t5)]]) [9] rfl (.x (f := fun gs_ => ⟨3, vPtr kStr, x.Name⟩) 0 (fun gs_ => [⟨1, vPtr k_aAct, x⟩]) rfl (fun gs_ => l_fa (o_t rfl) fl_aAct_0 fa41_0 (lt rfl)) (fun gs_ => .b rfl rfl (.nil)) .n (fun _ => rfl) rfl (fun _ _ _ => rfl) (.x (f := fun gs_ => ⟨4, vStr, x.Name⟩) 0 (fun gs_ => [⟨3, vPtr kStr, x.Name⟩]) rfl (fun gs_ => l_ld (o_t rfl) ty9 (lt rfl)) (fun gs_ => .d 0 rfl rfl (.nil)) .n (fun _ => rfl) rfl (fun _ _ _ => rfl) (.x (f := fun gs_ => ⟨5, vPtr (kSlice (kInt .i64)), x.Params⟩) 0 (fun gs_ => [⟨1, vPtr k_aAct, x⟩]) rfl (fun gs_ => l_fa (o_t rfl) fl_aAct_1 fa41_1 (lt rfl)) (fun gs_ => .b rfl rfl (.nil)) .n (fun _ => rfl) rfl (fun _ _ _ => rfl) (.x (f := fun gs_ => ⟨6, vSlice (kInt .i64), x.Params⟩) 0 (fun gs_ => [⟨5, vPtr (kSlice (kInt .i64)), x.Params⟩]) rfl (fun gs_ => l_ld (o_t rfl) ty22 (lt rfl)) (fun gs_ => .d 2 rfl rfl (.nil)) .n (fun _ => rfl) rfl (fun _ _ _ => rfl) (.x (f := fun gs_ => ⟨7, vSlice (kInt .i64), t3⟩) 0 (fun gs_ => [⟨6, vSlice (kInt .i64), x.Params⟩]) rfl (fun gs_ => l_call (ok30 x.Params _ h4) (.cons (o_t rfl) (.nil)) (lt rfl)) (fun gs_ => .d 3 rfl rfl (.nil)) .n (fun _ => rfl) rfl (fun _ _ _ => rfl) (.x (f := fun gs_ => ⟨8, vPtr (kSlice k_aIns), x.Code⟩) 0 (fun gs_ => [⟨1, vPtr k_aAct, x⟩]) rfl (fun gs_ => l_fa (o_t rfl) fl_aAct_2 fa41_2 (lt rfl)) (fun gs_ => .b rfl rfl (.nil)) .n (fun _ => rfl) rfl (fun _ _ _ => rfl) (.x (f := fun gs_ => ⟨9, vSlice k_aIns, x.Code⟩) 0 (fun gs_ => [⟨8, vPtr (kSlice k_aIns), x.Code⟩]) rfl (fun gs_ => l_ld (o_t rfl) ty25 (lt rfl)) (fun gs_ => .d 5 rfl rfl (.nil)) .n (fun _ => rfl) rfl (fun _ _ _ => rfl) (.x (f := fun gs_ => ⟨10, vSlice k_aIns, t5⟩) 0 (fun gs_ => [⟨9, vSlice k_aIns, x.Code⟩]) rfl (fun gs_ => l_call (ok33 x.Code _ h6) (.cons (o_t rfl) (.nil)) (lt rfl)) (fun gs_ => .d 6 rfl rfl (.nil)) .n (fun _ => rfl) rfl (fun _ _ _ => rfl) (.x (f := fun gs_ => ⟨11, (k_aAct).v, (aAct.mk x.Name t3 t5)⟩) 0 (fun gs_ => [⟨4, vStr, x.Name⟩, ⟨7, vSlice (kInt .i64), t3⟩, ⟨10, vSlice k_aIns, t5⟩]) rfl (fun gs_ => l_build zr41 (.cons (o_t rfl) fl_aAct_0 ft41_0 (.cons (o_t rfl) fl_aAct_1 ft41_1 (.cons (o_t rfl) fl_aAct_2 ft41_2 (.nil)))) rfl stb41 (lt rfl)) (fun gs_ => .d 1 rfl rfl (.d 4 rfl rfl (.d 7 rfl rfl (.nil)))) .n (fun _ => rfl) rfl (fun _ _ _ => rfl) (.e (f := fun gs_ => none) 0 (fun gs_ => [⟨2, vLoc, (b1, 0)⟩, ⟨11, (k_aAct).v, (aAct.mk x.Name t3 t5)⟩]) rfl (fun gs_ hg_ => by obtain rfl := len0 hg_; show LocX _ _ _ [rBox b1 41 k_aAct (aAct.mk ByteArray.empty [] [])] _ (fun gh900_ => none) (fun gh900_ => [rBox b1 41 k_aAct (aAct.mk x.Name t3 t5)]); exact e_stm (i := 0) (o_t rfl) (o_t rfl) rfl (Fld.refl _) sz41) (fun gs_ => .b rfl rfl (.d 8 rfl rfl (.nil))) .n (fun _ => rfl) rfl (fun _ _ _ => rfl) (.nil))))))))))) (fun gs_ hgs_ => ?_)
  obtain ⟨gh900_, rfl⟩ := len1 hgs_
  show Kx _ _ [rBox b1 41 k_aAct (aAct.mk x.Name t3 t5)] _ _
  refine k_seq ?_
  cases hp_
  exact t_ret (k_frzb (s := 2) (i := 0) rfl rfl <| k_drop <| k_retc () rfl ty41 rfl rfl rfl rfl)
end Go.Proofs.YtpaggjifaelcnaaGreat
