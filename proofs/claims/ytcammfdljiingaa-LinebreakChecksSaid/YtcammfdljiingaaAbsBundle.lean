/-
  The rules in two bundles.
-/
import Derived.Test.YtcammfdljiingaaAbsFlat
set_option linter.unusedSimpArgs false
set_option linter.unusedVariables false
set_option linter.defProp false
namespace Go.Abs
theorem cells_bool (b : Bool) : (AVal.bool b).cells = [(AVal.bool b)] := _root_.id rfl
theorem one_bool (b : Bool) : (AVal.bool b).one = true := _root_.id rfl
theorem cells_int (k : IntKind) (n : Int) : (AVal.int k n).cells = [(AVal.int k n)] := _root_.id rfl
theorem one_int (k : IntKind) (n : Int) : (AVal.int k n).one = true := _root_.id rfl
theorem cells_str (s : List UInt8) : (AVal.str s).cells = [(AVal.str s)] := _root_.id rfl
theorem one_str (s : List UInt8) : (AVal.str s).one = true := _root_.id rfl
theorem cells_sl (xs : List AVal) (t : Tok) : (AVal.sl xs t).cells = [(AVal.sl xs t)] := _root_.id rfl
theorem one_sl (xs : List AVal) (t : Tok) : (AVal.sl xs t).one = true := _root_.id rfl
theorem cells_nilptr : AVal.nilptr.cells = [AVal.nilptr] := _root_.id rfl
theorem one_nilptr : AVal.nilptr.one = true := _root_.id rfl
theorem cells_ptr (i o : Nat) : (AVal.ptr i o).cells = [(AVal.ptr i o)] := _root_.id rfl
theorem one_ptr (i o : Nat) : (AVal.ptr i o).one = true := _root_.id rfl
theorem cells_ref (a b c d : Nat) : (AVal.ref a b c d).cells = [(AVal.ref a b c d)] := _root_.id rfl
theorem one_ref (a b c d : Nat) : (AVal.ref a b c d).one = true := _root_.id rfl
theorem cells_fn (f : Nat) (c : List AVal) : (AVal.fn f c).cells = [(AVal.fn f c)] := _root_.id rfl
theorem one_fn (f : Nat) (c : List AVal) : (AVal.fn f c).one = true := _root_.id rfl
theorem cells_nilfn : AVal.nilfn.cells = [AVal.nilfn] := _root_.id rfl
theorem one_nilfn : AVal.nilfn.one = true := _root_.id rfl
theorem cells_nilif : AVal.nilif.cells = [AVal.nilif] := _root_.id rfl
theorem one_nilif : AVal.nilif.one = true := _root_.id rfl
theorem cells_agg (cs : List AVal) : (AVal.agg cs).cells = cs := _root_.id rfl
theorem set_nil (cs : List AVal) (i : Nat) : setCells cs i [] = cs := _root_.id rfl
theorem set_cons (cs : List AVal) (i : Nat) (x : AVal) (xs : List AVal) : setCells cs i (x :: xs) = setCells (cs.set i x) (i + 1) xs := _root_.id rfl
/-- The rules that go ahead. -/
def pre := And.intro @WP_block (And.intro @XW_callK (And.intro @WP_seq (And.intro @WP_opsV (And.intro @WP_skip (And.intro @WP_ret (
  And.intro @WP_exit (And.intro @WP_condP (And.intro @sq_normal (And.intro @sq_ret (And.intro @sq_exit (And.intro @bk_normal (
  And.intro @bk_ret (And.intro @bk_exit (And.intro @lp_ret (And.intro @lp_exit (And.intro @XW_mov (And.intro @XW_bin (
  And.intro @XW_un (And.intro @XW_load (And.intro @XW_store (And.intro @XW_len (And.intro @XW_slen (And.intro @XW_faddr (
  And.intro @XW_nilc (And.intro @XW_ext (And.intro @XW_pickP (And.intro @XW_alloc (And.intro @XW_box (And.intro @XW_iaddr (
  And.intro @XW_pc (And.intro @XW_build (And.intro @XW_field (And.intro @XW_clo (And.intro @XW_toInt (And.intro @XW_idstr (
  And.intro @XW_slice (And.intro @XW_sslice (And.intro @XW_sidx (And.intro @XW_appendK (And.intro @XW_copyK (And.intro @XW_mksl (
  @XW_lit))))))))))))))))))))))))))))))))))))))))))
/-- The rules that follow. -/
def post := And.intro @Dum_eq (And.intro @PC_some (And.intro @PC_none (And.intro @stripL_nil (And.intro @stripL_sc (And.intro @sc_some (
  And.intro @sc_none (And.intro @st_int (And.intro @st_bool (And.intro @st_str (And.intro @st_none (And.intro @st_nil (
  And.intro @st_own (And.intro @st_ref (And.intro @st_agg (And.intro @st_tup (And.intro @strip_pt (And.intro @map_some' (
  And.intro @resA_one (And.intro @resA_none (And.intro @resA_two (And.intro @resA_three (And.intro @pu_int (And.intro @pu_bool (
  And.intro @pu_str (And.intro @pu_none (And.intro @pu_nil (And.intro @pu_own (And.intro @pu_agg (And.intro @pu_tup (
  And.intro @puL_nil (And.intro @puL_cons (And.intro @purify_pt (And.intro @false_and (And.intro @and_false (And.intro @or_true (
  And.intro @true_or (And.intro @or_false (And.intro @false_or (And.intro @Bool.and_false (And.intro @Bool.false_and (And.intro @not_true_eq_false (
  And.intro @not_false_eq_true (And.intro @RV_nil (And.intro @RV_exec (And.intro @RV_guardP (And.intro @evS_v (And.intro @evS_t (
  And.intro @evS_c (And.intro @ev_v (And.intro @ev_t (And.intro @ev_c (And.intro @putV_tmp (And.intro @putV_no (
  And.intro @putV_var (And.intro @putT_tmp (And.intro @putT_no (And.intro @putT_var (And.intro @bin_lss (And.intro @bin_leq (
  And.intro @bin_gtr (And.intro @bin_geq (And.intro @bin_eql (And.intro @bin_neq (And.intro @bin_add (And.intro @bin_sub (
  And.intro @bin_mul (And.intro @bin_eql_s (And.intro @bin_neq_s (And.intro @bin_add_s (And.intro @bin_eql_b (And.intro @bin_neq_b (
  And.intro @bin_struct_eql (And.intro @bin_struct_neq (And.intro @bin_rem (And.intro @bin_quo (And.intro @un_not (And.intro @un_neg (
  And.intro @load_rp (And.intro @load_ptr (And.intro @loadG_row (And.intro @store_ptr (And.intro @storeG_row (And.intro @mk_f (
  And.intro @mk_t (And.intro @len_sl (And.intro @len_ref (And.intro @slen_str (And.intro @faddr_rp (And.intro @faddr_ptr (
  And.intro @nilc_ptr (And.intro @nilc_fn (And.intro @ext_tup (And.intro @iaddr_map (And.intro @iaddr_refP (And.intro @sidx_str (
  And.intro @boundA_none (And.intro @boundA_int (And.intro @ite_some (And.intro @ite_mk (And.intro @sslice_ab (And.intro @sslice_a (
  And.intro @sslice_b (And.intro @slice_sl_b (And.intro @slice_ref_b (And.intro @slice_ref_a (And.intro @mksl_int (And.intro @fillA_nil (
  And.intro @fillA_cons (And.intro @callK_fn (And.intro @condP_bool (And.intro @guardP_t (And.intro @guardP_f (And.intro @guardP_tup (
  And.intro @ifP_true (And.intro @ifP_false (And.intro @ifP_not (And.intro @ifP_notB (And.intro @push_next (And.intro @put_next (
  And.intro @empty_next (And.intro @get_push_eq (And.intro @get_push_ne (And.intro @get_put_old (And.intro @get_put_ne (And.intro @put_push_eq (
  And.intro @put_push_ne (And.intro @wrap_in64 (And.intro @List.length_map.{0, 0} (And.intro @List.length_append.{0} (And.intro @List.getElem?_cons_zero.{0} (And.intro @List.getElem?_cons_succ.{0} (
  And.intro @List.getElem?_nil.{0} (And.intro @Option.getD_some.{0} (And.intro @Option.getD_none.{0} (And.intro @List.set_cons_zero.{0} (And.intro @List.set_cons_succ.{0} (And.intro @List.nil_append.{0} (
  And.intro @List.cons_append.{0} (And.intro @List.append_eq.{0} (And.intro @List.length_cons.{0} (And.intro @List.length_nil.{0} (And.intro @List.take_succ_cons.{0} (And.intro @List.take_zero.{0} (
  And.intro @List.drop_succ_cons.{0} (And.intro @List.drop_zero.{0} (And.intro @List.map_cons.{0, 0} (And.intro @List.map_nil.{0, 0} (And.intro @Option.map_some.{0, 0} (And.intro @Option.map_none.{0, 0} (
  And.intro @Option.some.injEq.{0} (And.intro @exists_eq_left.{1} (And.intro @exists_eq_left'.{1} (And.intro @AVal.bool.injEq (And.intro @if_true.{1} (And.intro @if_false.{1} (
  And.intro @ite_true.{1} (And.intro @ite_false.{1} (And.intro @Bool.false_eq_true (And.intro @decide_true (And.intro @decide_false (And.intro @and_true (
  And.intro @true_and (And.intro @List.all_cons.{0} (And.intro @List.all_nil.{0} (And.intro @Bool.and_true (And.intro @Bool.true_and (And.intro @Bool.and_self (
  And.intro @Bool.not_true (And.intro @Bool.not_false (And.intro @Nat.zero_add (And.intro @ne_eq.{1} (And.intro @Nat.le_refl (And.intro @Nat.add_zero (
  And.intro @decide_eq_true_eq (And.intro @Int.toNat_natCast (And.intro @Int.toNat_zero (And.intro @repl_zero (And.intro @repl_succ (And.intro @chunkO_some (
  And.intro @consO_some (And.intro @chunk_z (And.intro @chunk_s (And.intro @lit0 (And.intro @lit2 (And.intro @List.append_nil.{0} (
  And.intro @Nat.zero_mul (And.intro @Nat.one_mul (And.intro @toNat_pred (And.intro @toNat_succ (And.intro @AVal.int.injEq (And.intro @AVal.str.injEq (
  And.intro @bindK_some (And.intro @bindH_some (And.intro @bindB_some (And.intro @cells_bool (And.intro @one_bool (And.intro @cells_int (
  And.intro @one_int (And.intro @cells_str (And.intro @one_str (And.intro @cells_sl (And.intro @one_sl (And.intro @cells_nilptr (
  And.intro @one_nilptr (And.intro @cells_ptr (And.intro @one_ptr (And.intro @cells_ref (And.intro @one_ref (And.intro @cells_fn (
  And.intro @one_fn (And.intro @cells_nilfn (And.intro @one_nilfn (And.intro @cells_nilif (And.intro @one_nilif (And.intro @cells_agg (
  And.intro @set_nil (@set_cons)))))))))))))))))))))))))))))))))))))))))))))))))))))))))))))))))))))))))))))))))))))))))))))))))))))))))))))))))))))))))))))))))))))))))))))))))))))))))))))))))))))))))))))))))))))))))))))))))))))))))))))))))))))))))
end Go.Abs
