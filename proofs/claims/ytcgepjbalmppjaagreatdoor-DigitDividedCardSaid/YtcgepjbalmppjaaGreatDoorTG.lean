/- The digits' seat: the text of a fixed number that is not 0. -/
import Derived.Test.YtcgepjbalmppjaaGreatDoorTE
import Derived.Test.YtcgepjbalmppjaaGreatDoorTF
namespace Go.Iron.Tryz
open Go.Proofs Go.RowKit Go.Iron.Tok Go.Iron.Dg

theorem digB_nat {d : Nat} (h : d < 10) : (digB d).toNat = 48 + d := by
  unfold digB
  rw [UInt8.toNat_ofNat']
  omega
theorem repeat_zero (c : Nat) : Lib.repeatL [48] c = List.replicate c 48 := by
  induction c with
  | zero => rfl
  | succ c ih =>
    show [48] ++ Lib.repeatL [48] c = _
    rw [ih, List.replicate_succ]
    rfl
theorem drop_rev {A : List Nat} {k : Nat} (hk : k < A.length) : ((A.drop k).reverse.map digB) = ((A.drop (k + 1)).reverse.map digB) ++ [digB (A.getD k 0)] := by
  rw [List.drop_eq_getElem_cons hk, List.reverse_cons, List.map_append, List.getD_eq_getElem?_getD, List.getElem?_eq_getElem hk]
  rfl
theorem d_Text12 (v : Vl) (hr : v.right = true) (hk : v.kind = 1 ∨ v.kind = 2) (hn : v.n ≠ 0) : CallT Tryz.prog 53 [.agg (vlE v)] [] (fun o A => o = .ret (.tup [sv (textL (decide (v.n < 0)) (ext v).m v.q.toNat), iv 0]) ∧ A = []) := by
  have hkn : numK v.kind = true := by rcases hk with h | h <;> rw [h] <;> rfl
  obtain ⟨h1, h2, h3, h4, h5, h6⟩ := right_num hr hkn
  have hask : askL none [v] = 0 := by
    unfold askL
    rw [if_neg (by simp [hr]), if_neg (by simp), if_neg (by simp [hkn]), if_neg (by simp)]
  have hak := d_askedN none [v] (by simp)
  rw [hask] at hak
  have hex : CallT Tryz.prog 102 [.agg (vlE v)] [] (fun o A => o = .ret (.agg [limS none (frm (ext v).m), bv (ext v).neg, iv (ext v).exp]) ∧ A = []) := d_exactV v hr hkn
  have hm0 : (ext v).m ≠ 0 := fun e => hn (exact_m0.1 e)
  have hfit := (ext_fits v hr hkn).1
  obtain ⟨Q, hQ⟩ : ∃ Q : Nat, v.q = (Q : Int) := ⟨v.q.toNat, by have := h3 (by omega); omega⟩
  have hQ31 : Q ≤ 31 := by have := h3 (by omega); omega
  have hk3 : (v.kind == 3) = false := by rcases hk with h | h <;> rw [h] <;> rfl
  obtain ⟨sg, hsg⟩ : ∃ sg : Str, sg = if decide (v.n < 0) = true then [45] else [] := ⟨_, rfl⟩
  have hsgl : sg.length ≤ 1 := by rw [hsg]; split <;> simp
  have hA0 : 0 < (frm (ext v).m).length := Nat.pos_of_ne_zero fun e => hm0 (frm_len0.1 e)
  have hdA := fun d (hd : d ∈ frm (ext v).m) => frm_digit hd
  unfold textL
  rw [← hsg, show v.q.toNat = Q by omega]
  unfold digs
  generalize hAe : frm (ext v).m = A at *
  have hw0 : IntKind.wrap .i64 ((A.length : Int) - 1) = (A.length : Int) - 1 := w64 (by omega) (by omega)
  refine callS_body (n := 96) rfl rfl fun w ρ X => ?_
  refine runS_x (I := inf) (J := jnf) ⟨false, false, [], 0, 0⟩ 9999 rfl (by repeat (first | exact obs_nil | refine obs_draw (by kernel_rfl) ?_ | refine obs_same ?_ | refine obs_and ?_ | refine obs_by (by (simp [inB] <;> omega)) ?_)) ?_
  refine runS_tell 1 (vlR [v]) rfl (m' := 1) rfl (fun j hj => ?_) rfl ?_
  · rcases j with _ | j <;> first | rfl | omega
  refine runS_freeze 13 rfl rfl rfl (fun j hj => ?_) ?_
  · rcases j with _ | j <;> first | rfl | omega
  refine runS_call rfl rfl rfl rfl rfl rfl rfl hak ?_
  refine runS_x (I := inf) (J := jnf) ⟨false, false, [], 0, 0⟩ 9999 rfl (by repeat (first | exact obs_nil | refine obs_draw (by kernel_rfl) ?_ | refine obs_same ?_ | refine obs_and ?_ | refine obs_by (by (simp [inB] <;> omega)) ?_)) ?_
  refine runS_cond rfl (fun h => by cases h) (fun h => ?_)
  refine runS_x (I := inf) (J := jnf) ⟨false, false, [], 0, 0⟩ 9999 rfl (by repeat (first | exact obs_nil | refine obs_draw (by kernel_rfl) ?_ | refine obs_same ?_ | refine obs_and ?_ | refine obs_by (by (simp [inB] <;> omega)) ?_)) ?_
  refine runS_cut (fun τ ar => (τ 1 = .ptr 0 0 0 ∧ τ 5 = sv sg) ∧ ar = [.box 23 (vlE v), .gone]) (fun rest => ?_) ?_
  · refine runS_cond rfl (fun h2 => ?_) (fun h2 => ?_)
    · have e : sg = [45] := by rw [hsg]; exact if_pos h2
      refine runS_x (I := inf) (J := jnf) ⟨false, false, [], 2, 0⟩ 9999 rfl (by repeat (first | exact obs_nil | refine obs_draw (by kernel_rfl) ?_ | refine obs_same ?_ | refine obs_and ?_ | refine obs_by (by (simp [inB] <;> omega)) ?_)) ?_
      exact rest _ _ ⟨⟨rfl, by rw [e]; rfl⟩, rfl⟩
    · have e : sg = [] := by rw [hsg, show decide (v.n < 0) = false from h2]; rfl
      refine runS_x (I := inf) (J := jnf) ⟨false, false, [], 2, 0⟩ 9999 rfl (by repeat (first | exact obs_nil | refine obs_draw (by kernel_rfl) ?_ | refine obs_same ?_ | refine obs_and ?_ | refine obs_by (by (simp [inB] <;> omega)) ?_)) ?_
      exact rest _ _ ⟨⟨rfl, by rw [e]; rfl⟩, rfl⟩
  rintro τ2 ar2 ⟨⟨g1, g5⟩, rfl⟩
  refine runS_says 1 (by exact g1) (Says.refl _) ?_; refine runS_says 5 (by exact g5) (Says.refl _) ?_
  refine runS_x (I := inf) (J := jnf) ⟨false, false, [], 0, 0⟩ 9999 rfl (by repeat (first | exact obs_nil | refine obs_draw (by kernel_rfl) ?_ | refine obs_same ?_ | refine obs_and ?_ | refine obs_by (by (simp [inB] <;> omega)) ?_)) ?_
  refine runS_cond rfl (fun h2 => by rw [show (v.kind == 3) = true from h2] at hk3; cases hk3) (fun h2 => ?_)
  refine runS_x (I := inf) (J := jnf) ⟨false, false, [], 0, 0⟩ 9999 rfl (by repeat (first | exact obs_nil | refine obs_draw (by kernel_rfl) ?_ | refine obs_same ?_ | refine obs_and ?_ | refine obs_by (by (simp [inB] <;> omega)) ?_)) ?_
  refine runS_call rfl rfl rfl rfl rfl rfl rfl hex ?_
  refine runS_x (I := inf) (J := jnf) ⟨false, false, [117, 186], 0, 0⟩ 9999 rfl (by repeat (first | exact obs_nil | refine obs_draw (by kernel_rfl) ?_ | refine obs_same ?_ | refine obs_and ?_ | refine obs_by (by (simp [inB] <;> omega)) ?_)) ?_
  refine runS_nilRowBox 2 1 5 1 (byR []) rfl rfl rfl rfl rfl ?_
  refine runS_forget 7 rfl ?_; refine runS_forgetLoop 7 5 rfl rfl ?_
  refine runS_name 5 rfl (fun L => rfl) (fun L hL => ?_)
  refine runS_while (fun (z : Nat × AV) τ ar => (τ 0 = .yld 5 ∧ τ 1 = .ptr 3 0 0 ∧ τ 3 = iv ((z.1 : Int) - 1)) ∧ ar = [.box 23 (vlE v), .gone, .box 148 [z.2, .row 6 ((A.drop z.1).reverse.map digB).length], .box 72 [limS none A], .dfr true, L, .row 5 1 ((A.drop z.1).reverse.map digB).length ((A.drop z.1).reverse.map digB).length (byR ((A.drop z.1).reverse.map digB))] ∧ z.1 ≤ A.length ∧ (z.2 = nilP ∨ z.2 = bPtr) ∧ (z.1 < A.length → z.2 = bPtr)) (fun z => z.1) (A.length, nilP) ⟨⟨rfl, rfl, congrArg iv hw0⟩, by rw [List.drop_length]; rfl, Nat.le_refl _, .inl rfl, fun h => absurd h (Nat.lt_irrefl _)⟩ ?_
  rintro ⟨i, a⟩ τ' ar' ⟨⟨g0, g1, g3⟩, rfl, hi, ha, hab⟩ ih
  dsimp only at g3 hi ha hab ih ⊢
  subst hL
  refine runS_says 0 (by exact g0) (Says.refl _) ?_; refine runS_says 1 (by exact g1) (Says.refl _) ?_; refine runS_says 3 (by exact g3) (Says.refl _) ?_
  refine runS_x (I := inf) (J := jnf) ⟨false, false, [], 0, 0⟩ 9999 rfl (by repeat (first | exact obs_nil | refine obs_draw (by kernel_rfl) ?_ | refine obs_same ?_ | refine obs_and ?_ | refine obs_by (by (simp [inB] <;> omega)) ?_)) ?_
  refine runS_cond rfl (fun h => ?_) (fun h => ?_)
  · have hi0 : 0 < i := by
      have : decide ((i : Int) - 1 ≥ 0) = true := h
      simp at this
      omega
    obtain ⟨k, rfl⟩ : ∃ k, i = k + 1 := ⟨i - 1, by omega⟩
    have hkk : k < A.length := by omega
    have e1 : (((k + 1 : Nat) : Int) - 1) = (k : Int) := by omega
    rw [e1] at g3 ⊢
    have hwk : IntKind.wrap .i64 ((k : Int) - 1) = (k : Int) - 1 := w64 (by omega) (by omega)
    have hd9 := getD_lt hdA k
    have hbn : (((digB (A.getD k 0)).toNat : Nat) : Int) = IntKind.wrap .u8 (48 + ((A.getD k 0 : Nat) : Int)) := by rw [digB_nat hd9, w8 (by omega) (by omega)]; rfl
    have hdr := drop_rev hkk
    have hll : ((A.drop (k + 1)).reverse.map digB).length ≤ 100 := by simp; omega
    generalize hle : (A.drop (k + 1)).reverse.map digB = l at *
    refine runS_x (I := inf) (J := jnf) ⟨false, false, [], 0, 0⟩ 9999 rfl (by repeat (first | exact obs_nil | refine obs_draw (by kernel_rfl) ?_ | refine obs_same ?_ | refine obs_and ?_ | refine obs_by (by (simp [inB, hkk] <;> omega)) ?_)) ?_
    refine runS_name 5 rfl (fun L => rfl) (fun L hL => ?_)
    have hz : Six.Ok ⟨.box 23 (vlE v), .gone, .box 72 [limS none A], .dfr true, L⟩ := ⟨fun l h => .box rfl (.gone h), fun l h => by rw [hL]; exact .box rfl (.dfr (.loop (scrub_under _ _) h))⟩
    have hbb := b_byte hz ha l.length l (digB (A.getD k 0)) (by omega)
    unfold uv at hbb
    rw [hbn] at hbb
    refine runS_callF (blV ⟨.box 23 (vlE v), .gone, .box 72 [limS none A], .dfr true, L⟩ a l.length l) (blV ⟨.box 23 (vlE v), .gone, .box 72 [limS none A], .dfr true, L⟩ bPtr (l.length + 1) (l ++ [digB (A.getD k 0)])) [] rfl rfl rfl rfl rfl (show _ = _ from rfl) rfl (kBV hz ha l.length l) rfl rfl hbb ?_
    subst hL
    refine runS_x (I := inf) (J := jnf) ⟨true, false, [], 0, 0⟩ 9999 rfl (by repeat (first | exact obs_nil | refine obs_draw (by kernel_rfl) ?_ | refine obs_same ?_ | refine obs_and ?_ | refine obs_by (by (simp [inB] <;> omega)) ?_)) ?_
    refine runS_drop 7 (Nat.zero_le _) rfl (by repeat (first | exact .nil | refine .row (fun j hj => rfl) ?_ | refine .box rfl ?_ | refine .fam (fun k j hk hj => rfl) ?_ | refine .loop (scrub_under _ _) ?_ | refine .dfr ?_ | refine .gone ?_ | refine .map (fun p hp => by (obtain ⟨k, _, rfl⟩ := List.mem_map.1 hp; rfl)) ?_)) rfl rfl rfl (by repeat (first | exact .nil | refine .cons rfl rfl rfl (scrub_under _ _) ?_)) ?_
    refine ih (k, bPtr) _ _ (by dsimp only; omega) ⟨⟨rfl, rfl, congrArg iv hwk⟩, ?_, by dsimp only; omega, .inr rfl, fun _ => rfl⟩
    dsimp only
    rw [hdr, List.length_append]
    rfl
  · have hi0 : i = 0 := by
      have : decide ((i : Int) - 1 ≥ 0) = false := h
      simp at this
      omega
    subst hi0
    have hab0 := hab hA0
    subst hab0
    rw [List.drop_zero]
    refine runS_x (I := inf) (J := jnf) ⟨true, false, [], 0, 0⟩ 9999 rfl (by repeat (first | exact obs_nil | refine obs_draw (by kernel_rfl) ?_ | refine obs_same ?_ | refine obs_and ?_ | refine obs_by (by (simp [inB] <;> omega)) ?_)) ?_
    have hDl : (A.reverse.map digB).length = A.length := by simp
    generalize A.reverse.map digB = D at *
    refine runS_name 5 rfl (fun L => rfl) (fun L hL => ?_)
    have hz : Six.Ok ⟨.box 23 (vlE v), .gone, .box 72 [limS none A], .dfr true, L⟩ := ⟨fun l h => .box rfl (.gone h), fun l h => by rw [hL]; exact .box rfl (.dfr (.loop (scrub_under _ _) h))⟩
    have hbt := b_text hz D.length D (by omega) (by omega)
    refine runS_callF (blV ⟨.box 23 (vlE v), .gone, .box 72 [limS none A], .dfr true, L⟩ bPtr D.length D) [.box 23 (vlE v), .gone, .box 148 [bPtr, .row 6 D.length], .box 72 [limS none A], .dfr true, L, .gone] [] rfl rfl rfl rfl rfl (show _ = _ from rfl) rfl (kBV hz (.inr rfl) D.length D) rfl rfl hbt ?_
    have hwl : IntKind.wrap .i64 (IntKind.wrap .i64 (v.q + 1) - ((bl (bs D)).length : Int)) = (Q : Int) + 1 - (D.length : Int) := by
      rw [blS, hQ, w64 (x := (Q : Int) + 1) (by omega) (by omega), w64 (by omega) (by omega)]
    refine runS_x (I := inf) (J := jnf) ⟨false, false, [], 0, 0⟩ 9999 rfl (by repeat (first | exact obs_nil | refine obs_draw (by kernel_rfl) ?_ | refine obs_same ?_ | refine obs_and ?_ | refine obs_by (by (simp [inB, blS] <;> omega)) ?_)) ?_
    refine runS_cut (fun τ ar => (τ 1 = .ptr 0 0 0 ∧ τ 5 = sv sg ∧ τ 10 = sv (padS Q D)) ∧ ar = [.box 23 (vlE v), .gone, .box 148 [bPtr, .row 6 D.length], .box 72 [limS none A], .dfr true, L, .gone]) (fun rest => ?_) ?_
    · refine runS_cond rfl (fun h2 => ?_) (fun h2 => ?_)
      · have hlk : D.length < Q + 1 := by
          have := of_decide_eq_true h2
          rw [hwl] at this
          omega
        have hrp := lib_repeat [48] (Q + 1 - D.length) (by decide) (by omega)
        rw [repeat_zero, show ((Q + 1 - D.length : Nat) : Int) = IntKind.wrap .i64 (IntKind.wrap .i64 (v.q + 1) - ((bl (bs D)).length : Int)) by rw [hwl]; omega] at hrp
        have hpl : (List.replicate (Q + 1 - D.length) (48 : UInt8)).length = Q + 1 - D.length := List.length_replicate
        refine runS_x (I := inf) (J := jnf) ⟨false, false, [], 2, 0⟩ 9999 rfl (by repeat (first | exact obs_nil | refine obs_draw (by kernel_rfl) ?_ | refine obs_same ?_ | refine obs_and ?_ | refine obs_by (by (simp [inB] <;> omega)) ?_)) ?_
        refine runS_call rfl rfl rfl rfl rfl rfl rfl hrp ?_
        refine runS_x (I := inf) (J := jnf) ⟨false, false, [], 2, 0⟩ 9999 rfl (by repeat (first | exact obs_nil | refine obs_draw (by kernel_rfl) ?_ | refine obs_same ?_ | refine obs_and ?_ | refine obs_by (by (simp [inB, blS, hpl] <;> omega)) ?_)) ?_
        exact rest _ _ ⟨⟨rfl, rfl, rfl⟩, rfl⟩
      · have hlk : ¬ D.length < Q + 1 := by
          have := of_decide_eq_false h2
          rw [hwl] at this
          omega
        have hpe : padS Q D = D := by
          unfold padS
          rw [show Q + 1 - D.length = 0 by omega]
          rfl
        refine runS_x (I := inf) (J := jnf) ⟨false, false, [], 2, 0⟩ 9999 rfl (by repeat (first | exact obs_nil | refine obs_draw (by kernel_rfl) ?_ | refine obs_same ?_ | refine obs_and ?_ | refine obs_by (by (simp [inB] <;> omega)) ?_)) ?_
        exact rest _ _ ⟨⟨rfl, rfl, by rw [hpe]; rfl⟩, rfl⟩
    rintro τ4 ar4 ⟨⟨g1, g5, g10⟩, rfl⟩
    subst hL
    have hpl := padS_len Q D
    have hpb : (padS Q D).length ≤ 100 := by unfold padS; simp; omega
    generalize padS Q D = E at *
    have hwd : IntKind.wrap .i64 (((bl (bs E)).length : Int) - v.q) = ((E.length - Q : Nat) : Int) := by rw [blS, hQ, w64 (by omega) (by omega)]; omega
    refine runS_says 1 (by exact g1) (Says.refl _) ?_; refine runS_says 5 (by exact g5) (Says.refl _) ?_; refine runS_says 10 (by exact g10) (Says.refl _) ?_
    refine runS_x (I := inf) (J := jnf) ⟨false, false, [], 0, 0⟩ 9999 rfl (by repeat (first | exact obs_nil | refine obs_draw (by kernel_rfl) ?_ | refine obs_same ?_ | refine obs_and ?_ | refine obs_by (by (simp [inB] <;> omega)) ?_)) ?_
    refine runS_cond rfl (fun h2 => ?_) (fun h2 => ?_)
    · have hQ0 : 0 < Q := by
        have := of_decide_eq_true h2
        omega
      have hwd2 : IntKind.wrap .i64 ((E.length : Int) - v.q) = ((E.length - Q : Nat) : Int) := hwd
      have hp1 : (part2 0 ((E.length - Q : Nat) : Int) E).length ≤ 100 := by unfold part2; simp; omega
      have hp2 : (part2 ((E.length - Q : Nat) : Int) (E.length : Int) E).length ≤ 100 := by unfold part2; simp; omega
      have hdot : (bl (ByteArray.mk #[46])).length = 1 := rfl
      refine runS_x (I := inf) (J := jnf) ⟨true, false, [], 0, 0⟩ 9999 rfl (by repeat (first | exact obs_nil | refine obs_draw (by kernel_rfl) ?_ | refine obs_same ?_ | refine obs_and ?_ | refine obs_by (by (simp [inB, blS, hwd2, hdot] <;> omega)) ?_)) ?_
      refine runS_ret (I := inf) 0 rfl (Nat.le_refl _) rfl .nil rfl ⟨?_, rfl⟩
      refine congrArg (fun z => Out.ret (.tup [sv z, iv 0])) ?_
      show sg ++ (((E.take (IntKind.wrap .i64 (((bl (bs E)).length : Int) - v.q)).toNat).drop (0 : Int).toNat ++ [46]) ++ (E.take ((E.length : Nat) : Int).toNat).drop (IntKind.wrap .i64 (((bl (bs E)).length : Int) - v.q)).toNat) = _
      rw [hwd]
      unfold pointS
      rw [Int.toNat_natCast, Int.toNat_natCast, if_pos hQ0, List.take_length]
      simp
    · have hQ0 : ¬ 0 < Q := by
        have := of_decide_eq_false h2
        omega
      refine runS_x (I := inf) (J := jnf) ⟨true, false, [], 0, 0⟩ 9999 rfl (by repeat (first | exact obs_nil | refine obs_draw (by kernel_rfl) ?_ | refine obs_same ?_ | refine obs_and ?_ | refine obs_by (by (simp [inB, blS] <;> omega)) ?_)) ?_
      refine runS_ret (I := inf) 0 rfl (Nat.le_refl _) rfl .nil rfl ⟨?_, rfl⟩
      unfold pointS
      rw [if_neg hQ0]
      rfl
end Go.Iron.Tryz

/- The digits' seat: awake. -/
namespace Go.Iron.Tryz
open Go.Proofs Go.RowKit Go.Iron.Tok Go.Iron.Dg

theorem l_awake : CallT Tryz.prog 15 [] [] (fun o A => o = .ret (bv true) ∧ A = []) := by
  have hd := d_Divide ⟨2, 1, 0, []⟩ ⟨2, 3, 0, []⟩ ⟨2, 15, 14, 0, false, []⟩ (by decide) (by decide)
  have hf : fitL 2 (15 : Int).toNat (14 : Int).toNat (Dg.quoL (ext ⟨2, 1, 0, []⟩) (ext ⟨2, 3, 0, []⟩) (14 : Int).toNat) 2 = (33333333333333, 14, 0) := third_fit
  dsimp only at hd
  rw [hf] at hd
  have ht := d_Text12 ⟨2, 33333333333333, 14, []⟩ (by decide) (.inr rfl) (by decide)
  have hx : textL (decide ((33333333333333 : Int) < 0)) (ext ⟨2, 33333333333333, 14, []⟩).m (14 : Int).toNat = [48, 46, 51, 51, 51, 51, 51, 51, 51, 51, 51, 51, 51, 51, 51, 51] := third_text
  dsimp only at ht
  rw [hx] at ht
  refine callS_body (n := 33) rfl rfl fun w ρ X => ?_
  refine runS_x (I := inf) (J := jnf) ⟨false, false, [], 0, 0⟩ 9999 rfl (by repeat (first | exact obs_nil | refine obs_draw (by kernel_rfl) ?_ | refine obs_same ?_ | refine obs_and ?_ | refine obs_by (by (simp [inB] <;> omega)) ?_)) ?_
  refine runS_call rfl rfl rfl rfl rfl rfl rfl hd ?_
  refine runS_x (I := inf) (J := jnf) ⟨false, false, [], 0, 0⟩ 9999 rfl (by repeat (first | exact obs_nil | refine obs_draw (by kernel_rfl) ?_ | refine obs_same ?_ | refine obs_and ?_ | refine obs_by (by (simp [inB] <;> omega)) ?_)) ?_
  refine runS_call rfl rfl rfl rfl rfl rfl rfl ht ?_
  refine runS_x (I := inf) (J := jnf) ⟨false, false, [], 0, 0⟩ 9999 rfl (by repeat (first | exact obs_nil | refine obs_draw (by kernel_rfl) ?_ | refine obs_same ?_ | refine obs_and ?_ | refine obs_by (by (simp [inB] <;> omega)) ?_)) ?_
  refine runS_ret (I := inf) 0 rfl (Nat.le_refl _) rfl .nil rfl ⟨?_, rfl⟩
  refine congrArg (fun x => Out.ret (bv x)) (?_ : _ = true)
  rw [show (ByteArray.mk #[48,46,51,51,51,51,51,51,51,51,51,51,51,51,51,51]) = bs [48,46,51,51,51,51,51,51,51,51,51,51,51,51,51,51] from rfl, bs_beq]
  decide
end Go.Iron.Tryz

/- The digits' seat: sums and differences; the order of numbers. -/
namespace Go.Iron.Tryz
open Go.Proofs Go.RowKit Go.Iron.Tok Go.Iron.Dg

theorem Fits.mono {a : Lg} {l l2 : Nat} {x x2 : Int} (h : Fits a l x) (hl : l ≤ l2) (hx : x ≤ x2) : Fits a l2 x2 := ⟨Nat.le_trans h.1 hl, by have := h.2; omega, by have := h.3; omega⟩
theorem frm_len_add (x y : Nat) : (frm (x + y)).length ≤ (frm x).length + (frm y).length + 1 := by
  refine frm_len_lt.2 ?_
  have h1 := frm_lt_pow x
  have h2 := frm_lt_pow y
  have h3 : 10 ^ (frm x).length ≤ 10 ^ ((frm x).length + (frm y).length) := Nat.pow_le_pow_right (by decide) (by omega)
  have h4 : 10 ^ (frm y).length ≤ 10 ^ ((frm x).length + (frm y).length) := Nat.pow_le_pow_right (by decide) (by omega)
  rw [Nat.pow_succ]
  omega
end Go.Iron.Tryz

/- The digits' seat: the reference's products and differences. -/
namespace Go.Iron.Tryz
open Go.Proofs Go.RowKit Go.Iron.Tok Go.Iron.Dg

theorem r_less (n1 n2 : Option Bool) (x y : Nat) (hyx : y ≤ x) (hl : (frm x).length ≤ 4000) : CallT Tryz.prog 66 [natS n1 (frm x), natS n2 (frm y)] [] (fun o A => o = .ret (natS none (frm (x - y))) ∧ A = []) := by
  have hda := fun d (hd : d ∈ frm x) => frm_digit hd
  have hdb := fun d (hd : d ∈ frm y) => frm_digit hd
  have hvx := val_frm x
  have hvy := val_frm y
  have hll := frm_len_mono hyx
  generalize frm x = A at *
  generalize frm y = B at *
  refine callS_body (n := 44) rfl rfl fun w ρ X => ?_
  refine runS_x (I := inf) (J := jnf) ⟨false, false, [], 0, 0⟩ 9999 rfl (by repeat (first | exact obs_nil | refine obs_draw (by kernel_rfl) ?_ | refine obs_same ?_ | refine obs_and ?_ | refine obs_by (by (simp [inB] <;> omega)) ?_)) ?_
  refine runS_tell 0 (rowN (fun j => A.getD j 0)) rfl (m' := A.length) (by simp) (fun j hj => (appR_ge (Nat.zero_le _)).symm) rfl ?_
  refine runS_while (fun (z : Nat × Nat × (Nat → Nat)) τ ar => (τ 1 = natS n2 B ∧ τ 5 = .row 0 1 ∧ τ 6 = iv z.2.1 ∧ τ 7 = iv z.1) ∧ ar = [.row 3 1 1 A.length (rowN z.2.2)] ∧ z.1 ≤ A.length ∧ LesI A B z.1 z.2.1 z.2.2) (fun z => A.length - z.1) (0, 0, fun j => A.getD j 0) ⟨⟨rfl, rfl, rfl, rfl⟩, rfl, Nat.zero_le _, lesI_zero A B⟩ ?_
  rintro ⟨i, v, p⟩ τ' ar' ⟨⟨g1, g5, g6, g7⟩, rfl, hi, hL⟩ ih
  dsimp only at g6 g7 hi hL ih ⊢
  refine runS_says 1 (by exact g1) (Says.refl _) ?_; refine runS_says 5 (by exact g5) (Says.refl _) ?_; refine runS_says 6 (by exact g6) (Says.refl _) ?_; refine runS_says 7 (by exact g7) (Says.refl _) ?_
  refine runS_x (I := inf) (J := jnf) ⟨false, false, [], 0, 0⟩ 9999 rfl (by repeat (first | exact obs_nil | refine obs_draw (by kernel_rfl) ?_ | refine obs_same ?_ | refine obs_and ?_ | refine obs_by (by (simp [inB] <;> omega)) ?_)) ?_
  refine runS_cond rfl (fun h => ?_) (fun h => ?_)
  · have hlt : i < A.length := by simp at h; omega
    have hw1 : IntKind.wrap .i64 ((i : Int) + 1) = ((i + 1 : Nat) : Int) := by rw [w64 (by omega) (by omega)]; rfl
    have hpi : p i = A.getD i 0 := hL.eq i (Nat.le_refl _)
    have hai := getD_lt hda i
    have hbi := getD_lt hdb i
    have hv1 := hL.wle
    have hst := lesI_step hda hdb hL
    unfold lesD lesW at hst
    rw [← hpi] at hst hai
    have hb0 : ¬ i < B.length → B.getD i 0 = 0 := fun h => by rw [List.getD_eq_getElem?_getD, List.getElem?_eq_none (by omega)]; rfl
    have ea : IntKind.wrap .i64 (((p i : Nat) : Int) - (v : Int)) = (p i : Int) - (v : Int) := w64 (by omega) (by omega)
    refine runS_x (I := inf) (J := jnf) ⟨false, false, [], 0, 0⟩ 9999 rfl (by repeat (first | exact obs_nil | refine obs_draw (by kernel_rfl) ?_ | refine obs_same ?_ | refine obs_and ?_ | refine obs_by (by (simp [inB, hlt] <;> omega)) ?_)) ?_
    refine runS_cut (fun τ ar => (τ 1 = natS n2 B ∧ τ 5 = .row 0 1 ∧ τ 7 = iv i ∧ τ 8 = iv ((p i : Int) - ((v + B.getD i 0 : Nat) : Int))) ∧ ar = [.row 3 1 1 A.length (rowN p)]) (fun rest => ?_) ?_
    · refine runS_cond rfl (fun h1 => ?_) (fun h1 => ?_)
      · have hlb : i < B.length := by
          have : decide ((i : Int) < (B.length : Int)) = true := h1
          simp at this
          omega
        have e : IntKind.wrap .i64 (IntKind.wrap .i64 (((p i : Nat) : Int) - (v : Int)) - ((B.getD ((i : Int)).toNat 0 : Nat) : Int)) = (p i : Int) - ((v + B.getD i 0 : Nat) : Int) := by rw [Int.toNat_natCast, ea, w64 (by omega) (by omega)]; omega
        refine runS_x (I := inf) (J := jnf) ⟨false, false, [], 7, 0⟩ 9999 rfl (by repeat (first | exact obs_nil | refine obs_draw (by kernel_rfl) ?_ | refine obs_same ?_ | refine obs_and ?_ | refine obs_by (by (simp [inB, hlb] <;> omega)) ?_)) ?_
        exact rest _ _ ⟨⟨rfl, rfl, rfl, congrArg iv e⟩, rfl⟩
      · have hlb : ¬ i < B.length := by
          have : decide ((i : Int) < (B.length : Int)) = false := h1
          simp at this
          omega
        have e : IntKind.wrap .i64 (((p i : Nat) : Int) - (v : Int)) = (p i : Int) - ((v + B.getD i 0 : Nat) : Int) := by rw [ea, hb0 hlb]; omega
        refine runS_x (I := inf) (J := jnf) ⟨false, false, [], 7, 0⟩ 9999 rfl (by repeat (first | exact obs_nil | refine obs_draw (by kernel_rfl) ?_ | refine obs_same ?_ | refine obs_and ?_ | refine obs_by (by (simp [inB] <;> omega)) ?_)) ?_
        exact rest _ _ ⟨⟨rfl, rfl, rfl, congrArg iv e⟩, rfl⟩
    rintro τ2 ar2 ⟨⟨g1, g5, g7, g8⟩, rfl⟩
    generalize hD : v + B.getD i 0 = D at g8 hst
    refine runS_says 1 (by exact g1) (Says.refl _) ?_; refine runS_says 5 (by exact g5) (Says.refl _) ?_; refine runS_says 7 (by exact g7) (Says.refl _) ?_; refine runS_says 8 (by exact g8) (Says.refl _) ?_
    refine runS_x (I := inf) (J := jnf) ⟨false, false, [], 0, 0⟩ 9999 rfl (by repeat (first | exact obs_nil | refine obs_draw (by kernel_rfl) ?_ | refine obs_same ?_ | refine obs_and ?_ | refine obs_by (by (simp [inB] <;> omega)) ?_)) ?_
    refine runS_cond rfl (fun h2 => ?_) (fun h2 => ?_)
    · have hlt2 : p i < D := by
        have := of_decide_eq_true (show decide ((p i : Int) - (D : Int) < 0) = true from h2)
        omega
      rw [if_pos hlt2, if_pos hlt2] at hst
      have e1 : IntKind.wrap .i64 ((p i : Int) - (D : Int) + 10) = ((p i + 10 - D : Nat) : Int) := by rw [w64 (by omega) (by omega)]; omega
      refine runS_x (I := inf) (J := jnf) ⟨false, false, [], 0, 0⟩ 9999 rfl (by repeat (first | exact obs_nil | refine obs_draw (by kernel_rfl) ?_ | refine obs_same ?_ | refine obs_and ?_ | refine obs_by (by (simp [inB, hlt] <;> omega)) ?_)) ?_
      refine runS_tell 0 (rowN (updF p i (p i + 10 - D))) rfl (m' := A.length) rfl (fun j hj => rowN_upd (congrArg (fun z => [iv z]) e1) j) rfl ?_
      refine ih (i + 1, 1, updF p i (p i + 10 - D)) _ _ (by dsimp only; omega) ⟨⟨rfl, rfl, rfl, congrArg iv hw1⟩, rfl, by dsimp only; omega, hst⟩
    · have hlt2 : ¬ p i < D := by
        have := of_decide_eq_false (show decide ((p i : Int) - (D : Int) < 0) = false from h2)
        omega
      rw [if_neg hlt2, if_neg hlt2] at hst
      have e2 : (p i : Int) - (D : Int) = ((p i - D : Nat) : Int) := by omega
      refine runS_x (I := inf) (J := jnf) ⟨false, false, [], 0, 0⟩ 9999 rfl (by repeat (first | exact obs_nil | refine obs_draw (by kernel_rfl) ?_ | refine obs_same ?_ | refine obs_and ?_ | refine obs_by (by (simp [inB, hlt] <;> omega)) ?_)) ?_
      refine runS_tell 0 (rowN (updF p i (p i - D))) rfl (m' := A.length) rfl (fun j hj => rowN_upd (congrArg (fun z => [iv z]) e2) j) rfl ?_
      refine ih (i + 1, 0, updF p i (p i - D)) _ _ (by dsimp only; omega) ⟨⟨rfl, rfl, rfl, congrArg iv hw1⟩, rfl, by dsimp only; omega, hst⟩
  · have hie : i = A.length := by
      have : decide ((i : Int) < (A.length : Int)) = false := h
      simp at this
      omega
    subst hie
    obtain ⟨hv, hdg⟩ := lesI_end hll (by omega) hL
    refine runS_x (I := inf) (J := jnf) ⟨false, false, [], 0, 0⟩ 9999 rfl (by repeat (first | exact obs_nil | refine obs_draw (by kernel_rfl) ?_ | refine obs_same ?_ | refine obs_and ?_ | refine obs_by (by (simp [inB] <;> omega)) ?_)) ?_
    refine runS_tell 0 (natR (listF p A.length)) rfl (m' := A.length) rfl (fun j hj => natR_listF p hj) rfl ?_
    refine runS_freeze 42 rfl rfl rfl (fun j hj => rfl) ?_
    have hc := r_trim none (listF p A.length) (by rw [listF_len]; omega) hdg
    unfold natS at hc
    rw [listF_len] at hc
    refine runS_call rfl rfl rfl rfl rfl rfl rfl hc ?_
    refine runS_x (I := inf) (J := jnf) ⟨false, false, [], 0, 0⟩ 9999 rfl (by repeat (first | exact obs_nil | refine obs_draw (by kernel_rfl) ?_ | refine obs_same ?_ | refine obs_and ?_ | refine obs_by (by (simp [inB] <;> omega)) ?_)) ?_
    refine runS_ret (I := inf) 0 rfl (Nat.le_refl _) rfl .nil rfl ⟨?_, rfl⟩
    unfold trim
    rw [hv, hvx, hvy]
    rfl
theorem r_mul (n1 n2 : Option Bool) (x y : Nat) (hx : (frm x).length ≤ 4000) (hy : (frm y).length ≤ 4000) : CallT Tryz.prog 62 [natS n1 (frm x), natS n2 (frm y)] [] (fun o A => o = .ret (natS none (frm (x * y))) ∧ A = []) := by
  have hda := fun d (hd : d ∈ frm x) => frm_digit hd
  have hdb := fun d (hd : d ∈ frm y) => frm_digit hd
  have hvx := val_frm x
  have hvy := val_frm y
  have hlp := mul_lt_pow x y (Nat.le_refl _)
  generalize frm x = A at *
  generalize frm y = B at *
  have hn0 : IntKind.wrap .i64 ((A.length : Int) + (B.length : Int)) = ((A.length + B.length : Nat) : Int) := by
    rw [w64 (by omega) (by omega)]; rfl
  refine callS_body (n := 67) rfl rfl fun w ρ X => ?_
  refine runS_x (I := inf) (J := jnf) ⟨false, false, [], 0, 0⟩ 9999 rfl (by repeat (first | exact obs_nil | refine obs_draw (by kernel_rfl) ?_ | refine obs_same ?_ | refine obs_and ?_ | refine obs_by (by (simp [inB, hn0] <;> omega)) ?_)) ?_
  obtain ⟨N, hN⟩ : ∃ N, A.length + B.length = N := ⟨_, rfl⟩
  rw [hN] at hlp
  refine runS_tell 0 (rowN (fun _ => 0)) rfl (m' := N) (by rw [hn0, hN]; rfl) (fun j hj => rfl) rfl ?_
  refine runS_while (fun (z : Nat × (Nat → Nat)) τ ar => (τ 0 = natS n1 A ∧ τ 1 = natS n2 B ∧ τ 5 = .row 0 0 ∧ τ 6 = iv z.1) ∧ ar = [.row 3 1 0 N (rowN z.2)] ∧ z.1 ≤ A.length ∧ MulI A B N z.1 0 z.2) (fun z => A.length - z.1) (0, fun _ => 0) ⟨⟨rfl, rfl, rfl, rfl⟩, rfl, Nat.zero_le _, mulI_zero A B _⟩ ?_
  rintro ⟨i, s⟩ τ' ar' ⟨⟨g0, g1, g5, g6⟩, rfl, hi, hL⟩ ih
  dsimp only at g6 hi hL ih ⊢
  refine runS_says 0 (by exact g0) (Says.refl _) ?_; refine runS_says 1 (by exact g1) (Says.refl _) ?_; refine runS_says 5 (by exact g5) (Says.refl _) ?_; refine runS_says 6 (by exact g6) (Says.refl _) ?_
  refine runS_x (I := inf) (J := jnf) ⟨false, false, [], 0, 0⟩ 9999 rfl (by repeat (first | exact obs_nil | refine obs_draw (by kernel_rfl) ?_ | refine obs_same ?_ | refine obs_and ?_ | refine obs_by (by (simp [inB] <;> omega)) ?_)) ?_
  refine runS_cond rfl (fun h => ?_) (fun h => ?_)
  · have hlt : i < A.length := by simp at h; omega
    have hw1 : IntKind.wrap .i64 ((i : Int) + 1) = ((i + 1 : Nat) : Int) := by rw [w64 (by omega) (by omega)]; rfl
    have hai := getD_lt hda i
    refine runS_x (I := inf) (J := jnf) ⟨false, false, [], 0, 0⟩ 9999 rfl (by repeat (first | exact obs_nil | refine obs_draw (by kernel_rfl) ?_ | refine obs_same ?_ | refine obs_and ?_ | refine obs_by (by (simp [inB, hlt] <;> omega)) ?_)) ?_
    refine runS_while (fun (z : Nat × (Nat → Nat)) τ ar => (τ 0 = natS n1 A ∧ τ 1 = natS n2 B ∧ τ 5 = .row 0 0 ∧ τ 6 = iv i ∧ τ 7 = iv z.1) ∧ ar = [.row 3 1 0 N (rowN z.2)] ∧ z.1 ≤ B.length ∧ MulI A B N i z.1 z.2) (fun z => B.length - z.1) (0, s) ⟨⟨rfl, rfl, rfl, rfl, rfl⟩, rfl, Nat.zero_le _, hL⟩ ?_
    rintro ⟨k, s2⟩ τ2 ar2 ⟨⟨g0, g1, g5, g6, g7⟩, rfl, hk, hK⟩ ih2
    dsimp only at g7 hk hK ih2 ⊢
    refine runS_says 0 (by exact g0) (Says.refl _) ?_; refine runS_says 1 (by exact g1) (Says.refl _) ?_; refine runS_says 5 (by exact g5) (Says.refl _) ?_; refine runS_says 6 (by exact g6) (Says.refl _) ?_; refine runS_says 7 (by exact g7) (Says.refl _) ?_
    refine runS_x (I := inf) (J := jnf) ⟨false, false, [], 0, 0⟩ 9999 rfl (by repeat (first | exact obs_nil | refine obs_draw (by kernel_rfl) ?_ | refine obs_same ?_ | refine obs_and ?_ | refine obs_by (by (simp [inB] <;> omega)) ?_)) ?_
    refine runS_cond rfl (fun h2 => ?_) (fun h2 => ?_)
    · have hkt : k < B.length := by simp at h2; omega
      have hbk := getD_lt hdb k
      have hw2 : IntKind.wrap .i64 ((k : Int) + 1) = ((k + 1 : Nat) : Int) := by rw [w64 (by omega) (by omega)]; rfl
      have hwi : IntKind.wrap .i64 ((i : Int) + (k : Int)) = ((i + k : Nat) : Int) := by rw [w64 (by omega) (by omega)]; rfl
      have hle := hK.le (i + k)
      have hsm : (if i ≤ i + k ∧ i + k < i + k then 81 else 0) ≤ 81 := by split <;> omega
      have hm81 : A.getD i 0 * B.getD k 0 ≤ 81 := Nat.mul_le_mul (show A.getD i 0 ≤ 9 by omega) (show B.getD k 0 ≤ 9 by omega)
      have hev : IntKind.wrap .i64 (((s2 (i + k) : Nat) : Int) + IntKind.wrap .i64 (((A.getD i 0 : Nat) : Int) * ((B.getD k 0 : Nat) : Int))) = ((s2 (i + k) + A.getD i 0 * B.getD k 0 : Nat) : Int) := by
        rw [← Int.natCast_mul, w64 (x := ((A.getD i 0 * B.getD k 0 : Nat) : Int)) (by omega) (by omega), w64 (by omega) (by omega)]
        rfl
      have hst := mulI_step hda hdb hkt (by omega) hK
      refine runS_x (I := inf) (J := jnf) ⟨false, false, [], 0, 0⟩ 9999 rfl (by repeat (first | exact obs_nil | refine obs_draw (by kernel_rfl) ?_ | refine obs_same ?_ | refine obs_and ?_ | refine obs_by (by (simp [inB, hkt, hlt, hwi] <;> omega)) ?_)) ?_
      rw [hwi]
      refine runS_tell 0 (rowN (updF s2 (i + k) (s2 (i + k) + A.getD i 0 * B.getD k 0))) rfl (m' := N) rfl (fun j hj => rowN_upd (congrArg (fun z => [iv z]) hev) j) rfl ?_
      exact ih2 (k + 1, updF s2 (i + k) (s2 (i + k) + A.getD i 0 * B.getD k 0)) _ _ (by dsimp only; omega) ⟨⟨rfl, rfl, rfl, rfl, congrArg iv hw2⟩, rfl, by dsimp only; omega, hst⟩
    · have hke : k = B.length := by simp at h2; omega
      subst hke
      refine runS_x (I := inf) (J := jnf) ⟨false, false, [], 0, 0⟩ 9999 rfl (by repeat (first | exact obs_nil | refine obs_draw (by kernel_rfl) ?_ | refine obs_same ?_ | refine obs_and ?_ | refine obs_by (by (simp [inB] <;> omega)) ?_)) ?_
      exact ih (i + 1, s2) _ _ (by dsimp only; omega) ⟨⟨rfl, rfl, rfl, congrArg iv hw1⟩, rfl, by dsimp only; omega, mulI_row hlt hK⟩
  · have hie : i = A.length := by simp at h; omega
    subst hie
    refine runS_x (I := inf) (J := jnf) ⟨false, false, [], 0, 0⟩ 9999 rfl (by repeat (first | exact obs_nil | refine obs_draw (by kernel_rfl) ?_ | refine obs_same ?_ | refine obs_and ?_ | refine obs_by (by (simp [inB] <;> omega)) ?_)) ?_
    have hM : ∀ j, s j ≤ 400000 := fun j => by
      have := hL.le j
      rw [if_neg (by omega)] at this
      omega
    have hsum : sumF s N = x * y := by
      have := hL.sum
      rw [List.take_length, List.take_zero, hvx, hvy] at this
      rw [this]
      show x * y + _ * 0 = _
      rw [Nat.mul_zero, Nat.add_zero]
    refine runS_while (fun (z : Nat × Nat × (Nat → Nat)) τ ar => (τ 5 = .row 0 0 ∧ τ 8 = iv z.2.1 ∧ τ 9 = iv z.1) ∧ ar = [.row 3 1 0 N (rowN z.2.2)] ∧ z.1 ≤ N ∧ CarI N (x * y) 400000 z.1 z.2.1 z.2.2) (fun z => N - z.1) (0, 0, s) ⟨⟨rfl, rfl, rfl⟩, rfl, Nat.zero_le _, ⟨by dsimp only; rw [hsum]; simp, fun j hj => by omega, hM, by dsimp only; omega⟩⟩ ?_
    rintro ⟨j, c, p⟩ τ3 ar3 ⟨⟨g5, g8, g9⟩, rfl, hj, hC⟩ ih3
    dsimp only at g8 g9 hj hC ih3 ⊢
    refine runS_says 5 (by exact g5) (Says.refl _) ?_; refine runS_says 8 (by exact g8) (Says.refl _) ?_; refine runS_says 9 (by exact g9) (Says.refl _) ?_
    refine runS_x (I := inf) (J := jnf) ⟨false, false, [], 0, 0⟩ 9999 rfl (by repeat (first | exact obs_nil | refine obs_draw (by kernel_rfl) ?_ | refine obs_same ?_ | refine obs_and ?_ | refine obs_by (by (simp [inB] <;> omega)) ?_)) ?_
    refine runS_cond rfl (fun h3 => ?_) (fun h3 => ?_)
    · have hjt : j < N := by
        have := of_decide_eq_true (show decide ((j : Int) < (N : Int)) = true from h3)
        omega
      have hw3 : IntKind.wrap .i64 ((j : Int) + 1) = ((j + 1 : Nat) : Int) := by rw [w64 (by omega) (by omega)]; rfl
      have hsj := hC.le j
      have hcl := hC.cle
      have hst := carI_step (by omega) hjt hC
      have hcs : IntKind.wrap .i64 (((p j : Nat) : Int) + (c : Int)) = ((p j + c : Nat) : Int) := by rw [w64 (by omega) (by omega)]; rfl
      have e1 : (IntKind.wrap .i64 (((p j : Nat) : Int) + (c : Int))).tmod 10 = (((p j + c) % 10 : Nat) : Int) := by
        rw [hcs, Int.natCast_emod, Int.tmod_eq_emod_of_nonneg (by omega)]; rfl
      have e2 : IntKind.wrap .i64 ((IntKind.wrap .i64 (((p j : Nat) : Int) + (c : Int))).tdiv 10) = (((p j + c) / 10 : Nat) : Int) := by
        rw [hcs, Int.tdiv_eq_ediv_of_nonneg (by omega), w64 (by omega) (by omega), Int.natCast_ediv]; rfl
      refine runS_x (I := inf) (J := jnf) ⟨false, false, [], 0, 0⟩ 9999 rfl (by repeat (first | exact obs_nil | refine obs_draw (by kernel_rfl) ?_ | refine obs_same ?_ | refine obs_and ?_ | refine obs_by (by (simp [inB, hjt] <;> omega)) ?_)) ?_
      refine runS_tell 0 (rowN (updF p j ((p j + c) % 10))) rfl (m' := N) rfl (fun k hk => rowN_upd (congrArg (fun z => [iv z]) e1) k) rfl ?_
      exact ih3 (j + 1, (p j + c) / 10, updF p j ((p j + c) % 10)) _ _ (by dsimp only; omega) ⟨⟨rfl, congrArg iv e2, congrArg iv hw3⟩, rfl, by dsimp only; omega, hst⟩
    · have hje : j = N := by
        have := of_decide_eq_false (show decide ((j : Int) < (N : Int)) = false from h3)
        omega
      subst hje
      obtain ⟨hv, hdg⟩ := carI_end hlp hC
      refine runS_x (I := inf) (J := jnf) ⟨false, false, [], 0, 0⟩ 9999 rfl (by repeat (first | exact obs_nil | refine obs_draw (by kernel_rfl) ?_ | refine obs_same ?_ | refine obs_and ?_ | refine obs_by (by (simp [inB] <;> omega)) ?_)) ?_
      refine runS_tell 0 (natR (listF p j)) rfl (m' := j) rfl (fun k hk => natR_listF p hk) rfl ?_
      refine runS_freeze 65 rfl rfl rfl (fun k hk => rfl) ?_
      have hc := r_trim none (listF p j) (by rw [listF_len]; omega) hdg
      unfold natS at hc
      rw [listF_len] at hc
      refine runS_call rfl rfl rfl rfl rfl rfl rfl hc ?_
      refine runS_x (I := inf) (J := jnf) ⟨false, false, [], 0, 0⟩ 9999 rfl (by repeat (first | exact obs_nil | refine obs_draw (by kernel_rfl) ?_ | refine obs_same ?_ | refine obs_and ?_ | refine obs_by (by (simp [inB] <;> omega)) ?_)) ?_
      refine runS_ret (I := inf) 0 rfl (Nat.le_refl _) rfl .nil rfl ⟨?_, rfl⟩
      unfold trim
      rw [hv]
      rfl
end Go.Iron.Tryz

/- The digits' seat: the reference's exact numbers. -/
namespace Go.Iron.Tryz
open Go.Proofs Go.RowKit Go.Iron.Tok Go.Iron.Dg

/-- Digits enough. -/
structure ExFit (x : Ex) (l : Nat) : Prop where
  num : (frm x.num).length ≤ l
  den : (frm x.den).length ≤ l
theorem r_wholeZ (n : Int) (hn : n.natAbs < 4611686018427387904) : CallT Tryz.prog 60 [iv n] [] (fun o A => o = .ret (exA ⟨decide (n < 0), n.natAbs, 1⟩) ∧ A = []) := by
  refine callS_body (n := 16) rfl rfl fun w ρ X => ?_
  refine runS_x (I := inf) (J := jnf) ⟨false, false, [], 0, 0⟩ 9 rfl (by repeat (first | exact obs_nil | refine obs_draw (by kernel_rfl) ?_ | refine obs_same ?_ | refine obs_and ?_ | refine obs_by (by (simp [inB] <;> omega)) ?_)) ?_
  refine runS_tell 1 (natR [1]) rfl (m' := 1) rfl (fun i hi => by
    have : i = 0 := by omega
    subst this
    rfl) rfl ?_
  refine runS_freeze 6 rfl rfl rfl (fun j hj => rfl) ?_
  refine runS_x (I := inf) (J := jnf) ⟨false, false, [], 0, 0⟩ 9999 rfl (by repeat (first | exact obs_nil | refine obs_draw (by kernel_rfl) ?_ | refine obs_same ?_ | refine obs_and ?_ | refine obs_by (by (simp [inB] <;> omega)) ?_)) ?_
  have h1 : exA ⟨decide (n < 0), n.natAbs, 1⟩ = .agg [bv (decide (n < 0)), natS none (frm n.natAbs), natS none [1]] := by rw [← frm_one]
  rw [h1]
  refine runS_cond rfl (fun h => ?_) (fun h => ?_)
  · have h0 : n < 0 := of_decide_eq_true h
    have hf := r_from n.natAbs hn
    rw [show ((n.natAbs : Nat) : Int) = IntKind.wrap .i64 (0 - n) by rw [w64 (by omega) (by omega)]; omega] at hf
    refine runS_x (I := inf) (J := jnf) ⟨false, false, [], 0, 0⟩ 9999 rfl (by repeat (first | exact obs_nil | refine obs_draw (by kernel_rfl) ?_ | refine obs_same ?_ | refine obs_and ?_ | refine obs_by (by (simp [inB] <;> omega)) ?_)) ?_
    refine runS_call rfl rfl rfl rfl rfl rfl rfl hf ?_
    refine runS_x (I := inf) (J := jnf) ⟨false, false, [], 0, 0⟩ 9999 rfl (by repeat (first | exact obs_nil | refine obs_draw (by kernel_rfl) ?_ | refine obs_same ?_ | refine obs_and ?_ | refine obs_by (by (simp [inB] <;> omega)) ?_)) ?_
    refine runS_ret (I := inf) 0 rfl (Nat.le_refl _) rfl .nil rfl ⟨?_, rfl⟩
    rfl
  · have h0 : ¬ n < 0 := of_decide_eq_false h
    have hf := r_from n.natAbs hn
    rw [show ((n.natAbs : Nat) : Int) = n by omega] at hf
    refine runS_x (I := inf) (J := jnf) ⟨false, false, [], 0, 0⟩ 9999 rfl (by repeat (first | exact obs_nil | refine obs_draw (by kernel_rfl) ?_ | refine obs_same ?_ | refine obs_and ?_ | refine obs_by (by (simp [inB] <;> omega)) ?_)) ?_
    refine runS_call rfl rfl rfl rfl rfl rfl rfl hf ?_
    refine runS_x (I := inf) (J := jnf) ⟨false, false, [], 0, 0⟩ 9999 rfl (by repeat (first | exact obs_nil | refine obs_draw (by kernel_rfl) ?_ | refine obs_same ?_ | refine obs_and ?_ | refine obs_by (by (simp [inB] <;> omega)) ?_)) ?_
    refine runS_ret (I := inf) 0 rfl (Nat.le_refl _) rfl .nil rfl ⟨?_, rfl⟩
    rfl
theorem r_pow10Z (q : Int) (h0 : 0 ≤ q) (hq : q ≤ 1000) : CallT Tryz.prog 61 [iv 10, iv q] [] (fun o A => o = .ret (natS none (frm (10 ^ q.toNat))) ∧ A = []) := by
  have h := r_pow10 q.toNat (by omega)
  rw [show ((q.toNat : Nat) : Int) = q by omega] at h
  exact h
theorem r_pow2Z (q : Int) (h0 : 0 ≤ q) (hq : q ≤ 60) : CallT Tryz.prog 61 [iv 2, iv q] [] (fun o A => o = .ret (natS none (frm (2 ^ q.toNat))) ∧ A = []) := by
  have h := r_pow2 q.toNat (by omega)
  rw [show ((q.toNat : Nat) : Int) = q by omega] at h
  exact h
theorem r_of (v : Vl) (hr : v.right = true) (hk : numK v.kind = true) : CallT Tryz.prog 17 [.agg (vlE v)] [] (fun o A => o = .ret (exA (ofE v.kind v.n v.q)) ∧ A = []) := by
  obtain ⟨kd, n, q, s⟩ := v
  obtain ⟨h1, h2, h3, h4, h5, h6⟩ := right_num hr hk
  dsimp only at h1 h2 h3 h4 h5 h6 ⊢
  have hw := r_wholeZ n (by omega)
  have hln : (frm n.natAbs).length ≤ 15 := frm_len_lt.2 (by omega)
  rcases h2 with rfl | rfl | rfl
  · have hE : ofE 1 n q = ⟨decide (n < 0), n.natAbs, 2 ^ q.toNat⟩ := by simp [ofE]
    have := h3 (by decide)
    rw [hE]
    refine callS_body (n := 39) rfl rfl fun w ρ X => ?_
    refine runS_x (I := inf) (J := jnf) ⟨false, false, [], 0, 0⟩ 9999 rfl (by repeat (first | exact obs_nil | refine obs_draw (by kernel_rfl) ?_ | refine obs_same ?_ | refine obs_and ?_ | refine obs_by (by (simp [inB] <;> omega)) ?_)) ?_
    refine runS_call rfl rfl rfl rfl rfl rfl rfl hw ?_
    refine runS_x (I := inf) (J := jnf) ⟨false, false, [], 0, 0⟩ 9999 rfl (by repeat (first | exact obs_nil | refine obs_draw (by kernel_rfl) ?_ | refine obs_same ?_ | refine obs_and ?_ | refine obs_by (by (simp [inB] <;> omega)) ?_)) ?_
    refine runS_cond rfl (fun h => ?_) (fun h => by cases h)
    refine runS_x (I := inf) (J := jnf) ⟨false, false, [], 0, 0⟩ 9999 rfl (by repeat (first | exact obs_nil | refine obs_draw (by kernel_rfl) ?_ | refine obs_same ?_ | refine obs_and ?_ | refine obs_by (by (simp [inB] <;> omega)) ?_)) ?_
    refine runS_call rfl rfl rfl rfl rfl rfl rfl (r_pow2Z q (by omega) (by omega)) ?_
    refine runS_x (I := inf) (J := jnf) ⟨false, false, [], 0, 0⟩ 9999 rfl (by repeat (first | exact obs_nil | refine obs_draw (by kernel_rfl) ?_ | refine obs_same ?_ | refine obs_and ?_ | refine obs_by (by (simp [inB] <;> omega)) ?_)) ?_
    refine runS_ret (I := inf) 0 rfl (Nat.le_refl _) rfl .nil rfl ⟨?_, rfl⟩
    rfl
  · have hE : ofE 2 n q = ⟨decide (n < 0), n.natAbs, 10 ^ q.toNat⟩ := by simp [ofE]
    have := h3 (by decide)
    rw [hE]
    refine callS_body (n := 39) rfl rfl fun w ρ X => ?_
    refine runS_x (I := inf) (J := jnf) ⟨false, false, [], 0, 0⟩ 9999 rfl (by repeat (first | exact obs_nil | refine obs_draw (by kernel_rfl) ?_ | refine obs_same ?_ | refine obs_and ?_ | refine obs_by (by (simp [inB] <;> omega)) ?_)) ?_
    refine runS_call rfl rfl rfl rfl rfl rfl rfl hw ?_
    refine runS_x (I := inf) (J := jnf) ⟨false, false, [], 0, 0⟩ 9999 rfl (by repeat (first | exact obs_nil | refine obs_draw (by kernel_rfl) ?_ | refine obs_same ?_ | refine obs_and ?_ | refine obs_by (by (simp [inB] <;> omega)) ?_)) ?_
    refine runS_cond rfl (fun h => by cases h) (fun h => ?_)
    refine runS_x (I := inf) (J := jnf) ⟨false, false, [], 0, 0⟩ 9999 rfl (by repeat (first | exact obs_nil | refine obs_draw (by kernel_rfl) ?_ | refine obs_same ?_ | refine obs_and ?_ | refine obs_by (by (simp [inB] <;> omega)) ?_)) ?_
    refine runS_cond rfl (fun h => ?_) (fun h => by cases h)
    refine runS_x (I := inf) (J := jnf) ⟨false, false, [], 0, 0⟩ 9999 rfl (by repeat (first | exact obs_nil | refine obs_draw (by kernel_rfl) ?_ | refine obs_same ?_ | refine obs_and ?_ | refine obs_by (by (simp [inB] <;> omega)) ?_)) ?_
    refine runS_call rfl rfl rfl rfl rfl rfl rfl (r_pow10Z q (by omega) (by omega)) ?_
    refine runS_x (I := inf) (J := jnf) ⟨false, false, [], 0, 0⟩ 9999 rfl (by repeat (first | exact obs_nil | refine obs_draw (by kernel_rfl) ?_ | refine obs_same ?_ | refine obs_and ?_ | refine obs_by (by (simp [inB] <;> omega)) ?_)) ?_
    refine runS_ret (I := inf) 0 rfl (Nat.le_refl _) rfl .nil rfl ⟨?_, rfl⟩
    rfl
  · have := h4 rfl
    refine callS_body (n := 39) rfl rfl fun w ρ X => ?_
    refine runS_x (I := inf) (J := jnf) ⟨false, false, [], 0, 0⟩ 9999 rfl (by repeat (first | exact obs_nil | refine obs_draw (by kernel_rfl) ?_ | refine obs_same ?_ | refine obs_and ?_ | refine obs_by (by (simp [inB] <;> omega)) ?_)) ?_
    refine runS_call rfl rfl rfl rfl rfl rfl rfl hw ?_
    refine runS_x (I := inf) (J := jnf) ⟨false, false, [], 0, 0⟩ 9999 rfl (by repeat (first | exact obs_nil | refine obs_draw (by kernel_rfl) ?_ | refine obs_same ?_ | refine obs_and ?_ | refine obs_by (by (simp [inB] <;> omega)) ?_)) ?_
    refine runS_cond rfl (fun h => by cases h) (fun h => ?_)
    refine runS_x (I := inf) (J := jnf) ⟨false, false, [], 0, 0⟩ 9999 rfl (by repeat (first | exact obs_nil | refine obs_draw (by kernel_rfl) ?_ | refine obs_same ?_ | refine obs_and ?_ | refine obs_by (by (simp [inB] <;> omega)) ?_)) ?_
    refine runS_cond rfl (fun h => by cases h) (fun h => ?_)
    refine runS_x (I := inf) (J := jnf) ⟨false, false, [], 0, 0⟩ 9999 rfl (by repeat (first | exact obs_nil | refine obs_draw (by kernel_rfl) ?_ | refine obs_same ?_ | refine obs_and ?_ | refine obs_by (by (simp [inB] <;> omega)) ?_)) ?_
    refine runS_cond rfl (fun h => ?_) (fun h => by cases h)
    refine runS_x (I := inf) (J := jnf) ⟨false, false, [], 0, 0⟩ 9999 rfl (by repeat (first | exact obs_nil | refine obs_draw (by kernel_rfl) ?_ | refine obs_same ?_ | refine obs_and ?_ | refine obs_by (by (simp [inB] <;> omega)) ?_)) ?_
    refine runS_cond rfl (fun h => ?_) (fun h => ?_)
    · have hq0 : 0 ≤ q := of_decide_eq_true h
      have hE : ofE 3 n q = ⟨decide (n < 0), n.natAbs * 10 ^ q.toNat, 1⟩ := by
        have : (-q).toNat = 0 := by omega
        simp [ofE, this]
      rw [hE]
      have hpl : (frm (10 ^ q.toNat)).length ≤ 100 := by rw [frm_pow]; simp; omega
      have hm := r_mul none none n.natAbs (10 ^ q.toNat) (by omega) (by omega)
      refine runS_x (I := inf) (J := jnf) ⟨false, false, [], 0, 0⟩ 9999 rfl (by repeat (first | exact obs_nil | refine obs_draw (by kernel_rfl) ?_ | refine obs_same ?_ | refine obs_and ?_ | refine obs_by (by (simp [inB] <;> omega)) ?_)) ?_
      refine runS_drawG (ch := []) (A2 := fun _ => []) 6 [] (fun _ => [.box 23 (vaE 3 n q s), .box 35 [bv false, .val (.slice none 0 0), .val (.slice none 0 0)], .box 35 [bv (decide (n < 0)), natS none (frm n.natAbs), natS none (frm 1)]]) none (c := 9) jnfI.draw (by kernel_rfl) rfl (lexg_g (I := inf) (J := jnf) none ⟨_, rfl, (by repeat (first | exact obs_nil | refine obs_same ?_ | refine obs_and ?_ | refine obs_by (by (simp [inB] <;> omega)) ?_))⟩ rfl rfl rfl rfl (lexg_g (I := inf) (J := jnf) none ⟨_, rfl, (by repeat (first | exact obs_nil | refine obs_same ?_ | refine obs_and ?_ | refine obs_by (by (simp [inB] <;> omega)) ?_))⟩ rfl rfl rfl rfl (lexg_g (I := inf) (J := jnf) none ⟨_, rfl, (by repeat (first | exact obs_nil | refine obs_same ?_ | refine obs_and ?_ | refine obs_by (by (simp [inB] <;> omega)) ?_))⟩ rfl rfl rfl rfl (lexg_g (I := inf) (J := jnf) none ⟨_, rfl, (by repeat (first | exact obs_nil | refine obs_same ?_ | refine obs_and ?_ | refine obs_by (by (simp [inB] <;> omega)) ?_))⟩ rfl rfl rfl rfl (lexg_call rfl rfl rfl rfl rfl rfl rfl rfl rfl (r_pow10Z q (by omega) (by omega)) (lexg_call rfl rfl rfl rfl rfl rfl rfl rfl rfl hm lexg_nil)))))) rfl (fun _ => ?_) (fun h => by cases h)
      refine runS_x (I := inf) (J := jnf) ⟨false, false, [], 0, 0⟩ 9999 rfl (by repeat (first | exact obs_nil | refine obs_draw (by kernel_rfl) ?_ | refine obs_same ?_ | refine obs_and ?_ | refine obs_by (by (simp [inB] <;> omega)) ?_)) ?_
      refine runS_ret (I := inf) 0 rfl (Nat.le_refl _) rfl .nil rfl ⟨?_, rfl⟩
      rfl
    · have hq0 : ¬ 0 ≤ q := of_decide_eq_false h
      have hE : ofE 3 n q = ⟨decide (n < 0), n.natAbs, 10 ^ (-q).toNat⟩ := by
        have : q.toNat = 0 := by omega
        simp [ofE, this]
      rw [hE]
      have hp := r_pow10Z (-q) (by omega) (by omega)
      rw [show -q = IntKind.wrap .i64 (0 - q) by rw [w64 (by omega) (by omega)]; omega] at hp
      rw [show -q = IntKind.wrap .i64 (0 - q) by rw [w64 (by omega) (by omega)]; omega]
      refine runS_x (I := inf) (J := jnf) ⟨false, false, [], 0, 0⟩ 9999 rfl (by repeat (first | exact obs_nil | refine obs_draw (by kernel_rfl) ?_ | refine obs_same ?_ | refine obs_and ?_ | refine obs_by (by (simp [inB] <;> omega)) ?_)) ?_
      refine runS_call rfl rfl rfl rfl rfl rfl rfl hp ?_
      refine runS_x (I := inf) (J := jnf) ⟨false, false, [], 0, 0⟩ 9999 rfl (by repeat (first | exact obs_nil | refine obs_draw (by kernel_rfl) ?_ | refine obs_same ?_ | refine obs_and ?_ | refine obs_by (by (simp [inB] <;> omega)) ?_)) ?_
      refine runS_ret (I := inf) 0 rfl (Nat.le_refl _) rfl .nil rfl ⟨?_, rfl⟩
      rfl
theorem r_turn (x : Ex) (hx : ExFit x 4000) : CallT Tryz.prog 63 [exA x] [] (fun o A => o = .ret (exA (turnE x)) ∧ A = []) := by
  have := hx.num
  refine callS_body (n := 14) rfl rfl fun w ρ X => ?_
  refine runS_x (I := inf) (J := jnf) ⟨false, false, [], 0, 0⟩ 9999 rfl (by repeat (first | exact obs_nil | refine obs_draw (by kernel_rfl) ?_ | refine obs_same ?_ | refine obs_and ?_ | refine obs_by (by (simp [inB] <;> omega)) ?_)) ?_
  refine runS_ret (I := inf) 0 rfl (Nat.le_refl _) rfl .nil rfl ⟨?_, rfl⟩
  show Out.ret (.agg [bv (if (!x.neg) = true then decide (((frm x.num).length : Int) > 0) else false), natS none (frm x.num), natS none (frm x.den)]) = _
  have e : (if (!x.neg) = true then decide (((frm x.num).length : Int) > 0) else false) = (!x.neg && decide (x.num ≠ 0)) := by
    have hl := frm_len0 (x := x.num)
    rw [Bool.eq_iff_iff]
    cases x.neg <;> simp <;> omega
  rw [e]
  rfl
end Go.Iron.Tryz

/- The digits' seat: the reference's sums, products and order of exact numbers. -/
namespace Go.Iron.Tryz
open Go.Proofs Go.RowKit Go.Iron.Tok Go.Iron.Dg

theorem ExFit.mono {x : Ex} {l l2 : Nat} (h : ExFit x l) (hl : l ≤ l2) : ExFit x l2 := ⟨Nat.le_trans h.1 hl, Nat.le_trans h.2 hl⟩
theorem both_fit {x y : Ex} {l m : Nat} (hx : ExFit x l) (hy : ExFit y m) : ExFit (bothE x y) (2 * (l + m) + 1) := by
  have h1 := frm_len_mul x.num y.den
  have h2 := frm_len_mul y.num x.den
  have h3 := frm_len_mul x.den y.den
  have a1 := hx.1; have a2 := hx.2; have b1 := hy.1; have b2 := hy.2
  have hs := frm_len_add (x.num * y.den) (y.num * x.den)
  have d1 := frm_len_mono (Nat.sub_le (x.num * y.den) (y.num * x.den))
  have d2 := frm_len_mono (Nat.sub_le (y.num * x.den) (x.num * y.den))
  unfold bothE
  split
  · exact ⟨by dsimp only; omega, by dsimp only; omega⟩
  · split
    · exact ⟨by dsimp only; omega, by dsimp only; omega⟩
    · exact ⟨by dsimp only; omega, by dsimp only; omega⟩
theorem times_fit {x y : Ex} {l m : Nat} (hx : ExFit x l) (hy : ExFit y m) : ExFit (timesE x y) (l + m) := by
  have h1 := frm_len_mul x.num y.num
  have h3 := frm_len_mul x.den y.den
  have a1 := hx.1; have a2 := hx.2; have b1 := hy.1; have b2 := hy.2
  exact ⟨by show (frm (x.num * y.num)).length ≤ _; omega, by show (frm (x.den * y.den)).length ≤ _; omega⟩
theorem len_pos (n : Nat) : decide (((frm n).length : Int) > 0) = decide (n ≠ 0) := by
  have hl := frm_len0 (x := n)
  rw [Bool.eq_iff_iff]
  simp
  omega
theorem r_times (x y : Ex) (hx : ExFit x 4000) (hy : ExFit y 4000) : CallT Tryz.prog 19 [exA x, exA y] [] (fun o A => o = .ret (exA (timesE x y)) ∧ A = []) := by
  obtain ⟨xg, xn, xd⟩ := x
  obtain ⟨yg, yn, yd⟩ := y
  obtain ⟨a1, a2⟩ := hx
  obtain ⟨b1, b2⟩ := hy
  dsimp only at a1 a2 b1 b2
  have hm1 := r_mul none none xn yn a1 b1
  have hm2 := r_mul none none xd yd a2 b2
  refine callS_body (n := 28) rfl rfl fun w ρ X => ?_
  refine runS_x (I := inf) (J := jnf) ⟨false, false, [], 0, 0⟩ 9999 rfl (by repeat (first | exact obs_nil | refine obs_draw (by kernel_rfl) ?_ | refine obs_same ?_ | refine obs_and ?_ | refine obs_by (by (simp [inB] <;> omega)) ?_)) ?_
  refine runS_call rfl rfl rfl rfl rfl rfl rfl hm1 ?_
  refine runS_x (I := inf) (J := jnf) ⟨false, false, [], 0, 0⟩ 9999 rfl (by repeat (first | exact obs_nil | refine obs_draw (by kernel_rfl) ?_ | refine obs_same ?_ | refine obs_and ?_ | refine obs_by (by (simp [inB] <;> omega)) ?_)) ?_
  refine runS_call rfl rfl rfl rfl rfl rfl rfl hm2 ?_
  refine runS_x (I := inf) (J := jnf) ⟨false, false, [], 0, 0⟩ 9999 rfl (by repeat (first | exact obs_nil | refine obs_draw (by kernel_rfl) ?_ | refine obs_same ?_ | refine obs_and ?_ | refine obs_by (by (simp [inB] <;> omega)) ?_)) ?_
  refine runS_ret (I := inf) 0 rfl (Nat.le_refl _) rfl .nil rfl ⟨?_, rfl⟩
  show Out.ret (.agg [bv (if (xg != yg) = true then decide (((frm (xn * yn)).length : Int) > 0) else false), natS none (frm (xn * yn)), natS none (frm (xd * yd))]) = _
  rw [len_pos]
  cases xg <;> cases yg <;> rfl
theorem r_both (x y : Ex) (hx : ExFit x 1900) (hy : ExFit y 1900) : CallT Tryz.prog 20 [exA x, exA y] [] (fun o A => o = .ret (exA (bothE x y)) ∧ A = []) := by
  obtain ⟨xg, xn, xd⟩ := x
  obtain ⟨yg, yn, yd⟩ := y
  obtain ⟨a1, a2⟩ := hx
  obtain ⟨b1, b2⟩ := hy
  dsimp only at a1 a2 b1 b2
  have hm1 := r_mul none none xn yd (by omega) (by omega)
  have hm2 := r_mul none none yn xd (by omega) (by omega)
  have hm3 := r_mul none none xd yd (by omega) (by omega)
  have hl1 := frm_len_mul xn yd
  have hl2 := frm_len_mul yn xd
  unfold bothE
  dsimp only
  generalize xn * yd = p at *
  generalize yn * xd = q at *
  generalize xd * yd = d at *
  have hcm := cmpT_lt p q
  refine callS_body (n := 66) rfl rfl fun w ρ X => ?_
  refine runS_x (I := inf) (J := jnf) ⟨false, false, [], 0, 0⟩ 9999 rfl (by repeat (first | exact obs_nil | refine obs_draw (by kernel_rfl) ?_ | refine obs_same ?_ | refine obs_and ?_ | refine obs_by (by (simp [inB] <;> omega)) ?_)) ?_
  refine runS_draw 9 (by kernel_rfl) (lexj_x (I := inf) (J := jnf) 99 rfl rfl (by repeat (first | exact obs_nil | refine obs_same ?_ | refine obs_and ?_ | refine obs_by (by (simp [inB] <;> omega)) ?_)) (lexj_call rfl rfl rfl rfl rfl rfl rfl rfl hm1 (lexj_x (I := inf) (J := jnf) 99 rfl rfl (by repeat (first | exact obs_nil | refine obs_same ?_ | refine obs_and ?_ | refine obs_by (by (simp [inB] <;> omega)) ?_)) lexj_nil))) ?_
  refine runS_x (I := inf) (J := jnf) ⟨false, false, [], 0, 0⟩ 9999 rfl (by repeat (first | exact obs_nil | refine obs_draw (by kernel_rfl) ?_ | refine obs_same ?_ | refine obs_and ?_ | refine obs_by (by (simp [inB] <;> omega)) ?_)) ?_
  refine runS_call rfl rfl rfl rfl rfl rfl rfl hm2 ?_
  refine runS_x (I := inf) (J := jnf) ⟨false, false, [], 0, 0⟩ 9999 rfl (by repeat (first | exact obs_nil | refine obs_draw (by kernel_rfl) ?_ | refine obs_same ?_ | refine obs_and ?_ | refine obs_by (by (simp [inB] <;> omega)) ?_)) ?_
  refine runS_call rfl rfl rfl rfl rfl rfl rfl hm3 ?_
  refine runS_x (I := inf) (J := jnf) ⟨false, false, [], 0, 0⟩ 9999 rfl (by repeat (first | exact obs_nil | refine obs_draw (by kernel_rfl) ?_ | refine obs_same ?_ | refine obs_and ?_ | refine obs_by (by (simp [inB] <;> omega)) ?_)) ?_
  refine runS_cond rfl (fun h => ?_) (fun h => ?_)
  · have hs : xg = yg := by simpa using h
    rw [if_pos hs]
    refine runS_x (I := inf) (J := jnf) ⟨false, false, [], 0, 0⟩ 9999 rfl (by repeat (first | exact obs_nil | refine obs_draw (by kernel_rfl) ?_ | refine obs_same ?_ | refine obs_and ?_ | refine obs_by (by (simp [inB] <;> omega)) ?_)) ?_
    refine runS_draw 6 (by kernel_rfl) (lexj_x (I := inf) (J := jnf) 99 rfl rfl (by repeat (first | exact obs_nil | refine obs_same ?_ | refine obs_and ?_ | refine obs_by (by (simp [inB] <;> omega)) ?_)) (lexj_call rfl rfl rfl rfl rfl rfl rfl rfl (r_plus none none p q (by omega) (by omega)) (lexj_x (I := inf) (J := jnf) 99 rfl rfl (by repeat (first | exact obs_nil | refine obs_same ?_ | refine obs_and ?_ | refine obs_by (by (simp [inB] <;> omega)) ?_)) lexj_nil))) ?_
    refine runS_x (I := inf) (J := jnf) ⟨false, false, [], 0, 0⟩ 9999 rfl (by repeat (first | exact obs_nil | refine obs_draw (by kernel_rfl) ?_ | refine obs_same ?_ | refine obs_and ?_ | refine obs_by (by (simp [inB] <;> omega)) ?_)) ?_
    refine runS_ret (I := inf) 0 rfl (Nat.le_refl _) rfl .nil rfl ⟨?_, rfl⟩
    show Out.ret (.agg [bv (if xg = true then decide (((frm (p + q)).length : Int) > 0) else false), natS none (frm (p + q)), natS none (frm d)]) = _
    rw [len_pos]
    cases xg <;> rfl
  · have hs : ¬ xg = yg := by simpa using h
    rw [if_neg hs]
    refine runS_x (I := inf) (J := jnf) ⟨false, false, [], 0, 0⟩ 9999 rfl (by repeat (first | exact obs_nil | refine obs_draw (by kernel_rfl) ?_ | refine obs_same ?_ | refine obs_and ?_ | refine obs_by (by (simp [inB] <;> omega)) ?_)) ?_
    refine runS_call rfl rfl rfl rfl rfl rfl rfl (r_cmp none none (frm p) (frm q) (by omega) (by omega)) ?_
    refine runS_x (I := inf) (J := jnf) ⟨false, false, [], 0, 0⟩ 9999 rfl (by repeat (first | exact obs_nil | refine obs_draw (by kernel_rfl) ?_ | refine obs_same ?_ | refine obs_and ?_ | refine obs_by (by (simp [inB] <;> omega)) ?_)) ?_
    refine runS_cond rfl (fun h2 => ?_) (fun h2 => ?_)
    · have hle : q ≤ p := by
        have := of_decide_eq_true h2
        omega
      rw [if_pos hle]
      refine runS_x (I := inf) (J := jnf) ⟨false, false, [], 0, 0⟩ 9999 rfl (by repeat (first | exact obs_nil | refine obs_draw (by kernel_rfl) ?_ | refine obs_same ?_ | refine obs_and ?_ | refine obs_by (by (simp [inB] <;> omega)) ?_)) ?_
      refine runS_draw 6 (by kernel_rfl) (lexj_x (I := inf) (J := jnf) 99 rfl rfl (by repeat (first | exact obs_nil | refine obs_same ?_ | refine obs_and ?_ | refine obs_by (by (simp [inB] <;> omega)) ?_)) (lexj_call rfl rfl rfl rfl rfl rfl rfl rfl (r_less none none p q hle (by omega)) (lexj_x (I := inf) (J := jnf) 99 rfl rfl (by repeat (first | exact obs_nil | refine obs_same ?_ | refine obs_and ?_ | refine obs_by (by (simp [inB] <;> omega)) ?_)) lexj_nil))) ?_
      refine runS_x (I := inf) (J := jnf) ⟨false, false, [], 0, 0⟩ 9999 rfl (by repeat (first | exact obs_nil | refine obs_draw (by kernel_rfl) ?_ | refine obs_same ?_ | refine obs_and ?_ | refine obs_by (by (simp [inB] <;> omega)) ?_)) ?_
      refine runS_ret (I := inf) 0 rfl (Nat.le_refl _) rfl .nil rfl ⟨?_, rfl⟩
      show Out.ret (.agg [bv (if xg = true then decide (((frm (p - q)).length : Int) > 0) else false), natS none (frm (p - q)), natS none (frm d)]) = _
      rw [len_pos]
      cases xg <;> rfl
    · have hle : ¬ q ≤ p := by
        have := of_decide_eq_false h2
        omega
      rw [if_neg hle]
      refine runS_x (I := inf) (J := jnf) ⟨false, false, [], 0, 0⟩ 9999 rfl (by repeat (first | exact obs_nil | refine obs_draw (by kernel_rfl) ?_ | refine obs_same ?_ | refine obs_and ?_ | refine obs_by (by (simp [inB] <;> omega)) ?_)) ?_
      refine runS_draw 6 (by kernel_rfl) (lexj_x (I := inf) (J := jnf) 99 rfl rfl (by repeat (first | exact obs_nil | refine obs_same ?_ | refine obs_and ?_ | refine obs_by (by (simp [inB] <;> omega)) ?_)) (lexj_call rfl rfl rfl rfl rfl rfl rfl rfl (r_less none none q p (by omega) (by omega)) (lexj_x (I := inf) (J := jnf) 99 rfl rfl (by repeat (first | exact obs_nil | refine obs_same ?_ | refine obs_and ?_ | refine obs_by (by (simp [inB] <;> omega)) ?_)) lexj_nil))) ?_
      refine runS_x (I := inf) (J := jnf) ⟨false, false, [], 0, 0⟩ 9999 rfl (by repeat (first | exact obs_nil | refine obs_draw (by kernel_rfl) ?_ | refine obs_same ?_ | refine obs_and ?_ | refine obs_by (by (simp [inB] <;> omega)) ?_)) ?_
      refine runS_ret (I := inf) 0 rfl (Nat.le_refl _) rfl .nil rfl ⟨?_, rfl⟩
      show Out.ret (.agg [bv (if yg = true then decide (((frm (q - p)).length : Int) > 0) else false), natS none (frm (q - p)), natS none (frm d)]) = _
      rw [len_pos]
      cases yg <;> rfl
theorem turn_fit {x : Ex} {l : Nat} (h : ExFit x l) : ExFit (turnE x) l := ⟨h.1, h.2⟩
theorem r_order (x y : Ex) (hx : ExFit x 1900) (hy : ExFit y 1900) : CallT Tryz.prog 18 [exA x, exA y] [] (fun o A => o = .ret (iv (ordE x y)) ∧ A = []) := by
  have ht := r_turn y (hy.mono (by decide))
  have hb := r_both x (turnE y) hx (turn_fit hy)
  unfold ordE sigE
  generalize bothE x (turnE y) = D at *
  refine callS_body (n := 18) rfl rfl fun w ρ X => ?_
  refine runS_x (I := inf) (J := jnf) ⟨false, false, [], 0, 0⟩ 9999 rfl (by repeat (first | exact obs_nil | refine obs_draw (by kernel_rfl) ?_ | refine obs_same ?_ | refine obs_and ?_ | refine obs_by (by (simp [inB] <;> omega)) ?_)) ?_
  refine runS_drawG (ch := []) (A2 := fun _ => []) 5 [4] (fun z => [.box 35 [bv x.neg, natS none (frm x.num), natS none (frm x.den)], .box 35 [bv y.neg, natS none (frm y.num), natS none (frm y.den)]] ++ cond (z.getD 0 false) [.box 35 [bv false, .val (.slice none 0 0), .val (.slice none 0 0)]] []) none (c := 9) jnfI.draw (by kernel_rfl) rfl (lexg_g (I := inf) (J := jnf) none ⟨⟨_, rfl, (by repeat (first | exact obs_nil | refine obs_same ?_ | refine obs_and ?_ | refine obs_by (by (simp [inB] <;> omega)) ?_))⟩, (by first | exact .inl (by decide +kernel) | exact .inr ⟨_, rfl, (by repeat (first | exact obs_nil | refine obs_same ?_ | refine obs_and ?_ | refine obs_by (by (simp [inB] <;> omega)) ?_))⟩)⟩ rfl rfl rfl rfl (lexg_g (I := inf) (J := jnf) none ⟨⟨_, rfl, (by repeat (first | exact obs_nil | refine obs_same ?_ | refine obs_and ?_ | refine obs_by (by (simp [inB] <;> omega)) ?_))⟩, (by first | exact .inl (by decide +kernel) | exact .inr ⟨_, rfl, (by repeat (first | exact obs_nil | refine obs_same ?_ | refine obs_and ?_ | refine obs_by (by (simp [inB] <;> omega)) ?_))⟩)⟩ rfl rfl rfl rfl (lexg_call rfl rfl rfl rfl rfl rfl rfl rfl rfl ht (lexg_call rfl rfl rfl rfl rfl rfl rfl rfl rfl hb (lexg_a rfl rfl ⟨(show _ = _ from rfl), .inl rfl⟩ rfl rfl rfl rfl lexg_nil))))) rfl (fun _ => ?_) (fun h => by cases h)
  refine runS_x (I := inf) (J := jnf) ⟨false, false, [], 0, 0⟩ 9999 rfl (by repeat (first | exact obs_nil | refine obs_draw (by kernel_rfl) ?_ | refine obs_same ?_ | refine obs_and ?_ | refine obs_by (by (simp [inB] <;> omega)) ?_)) ?_
  refine runS_cond rfl (fun h => ?_) (fun h => ?_)
  · have hm : D.num = 0 := by
      have : (((frm D.num).length : Int) == 0) = true := h
      simp only [beq_iff_eq] at this
      exact frm_len0.1 (by omega)
    rw [if_pos hm]
    refine runS_x (I := inf) (J := jnf) ⟨false, false, [], 0, 0⟩ 9999 rfl (by repeat (first | exact obs_nil | refine obs_draw (by kernel_rfl) ?_ | refine obs_same ?_ | refine obs_and ?_ | refine obs_by (by (simp [inB] <;> omega)) ?_)) ?_
    refine runS_ret (I := inf) 0 rfl (Nat.le_refl _) rfl .nil rfl ⟨?_, rfl⟩
    rfl
  · have hm : D.num ≠ 0 := by
      have : (((frm D.num).length : Int) == 0) = false := h
      simp only [beq_eq_false_iff_ne] at this
      exact fun e => this (by rw [e, frm_zero]; rfl)
    rw [if_neg hm]
    refine runS_x (I := inf) (J := jnf) ⟨false, false, [], 0, 0⟩ 9999 rfl (by repeat (first | exact obs_nil | refine obs_draw (by kernel_rfl) ?_ | refine obs_same ?_ | refine obs_and ?_ | refine obs_by (by (simp [inB] <;> omega)) ?_)) ?_
    refine runS_cond rfl (fun h3 => ?_) (fun h3 => ?_)
    · rw [if_pos h3]
      refine runS_x (I := inf) (J := jnf) ⟨false, false, [], 0, 0⟩ 9999 rfl (by repeat (first | exact obs_nil | refine obs_draw (by kernel_rfl) ?_ | refine obs_same ?_ | refine obs_and ?_ | refine obs_by (by (simp [inB] <;> omega)) ?_)) ?_
      refine runS_ret (I := inf) 0 rfl (Nat.le_refl _) rfl .nil rfl ⟨?_, rfl⟩
      rfl
    · rw [if_neg (by rw [show D.neg = false from h3]; decide)]
      refine runS_x (I := inf) (J := jnf) ⟨false, false, [], 0, 0⟩ 9999 rfl (by repeat (first | exact obs_nil | refine obs_draw (by kernel_rfl) ?_ | refine obs_same ?_ | refine obs_and ?_ | refine obs_by (by (simp [inB] <;> omega)) ?_)) ?_
      refine runS_ret (I := inf) 0 rfl (Nat.le_refl _) rfl .nil rfl ⟨?_, rfl⟩
      rfl
end Go.Iron.Tryz

/- The digits' seat: the law of quotients. -/
namespace Go.Iron.Tryz
open Go.Proofs Go.RowKit Go.Iron.Tok Go.Iron.Dg

theorem of_fit {v : Vl} (hr : v.right = true) (hk : numK v.kind = true) : ExFit (ofE v.kind v.n v.q) 120 := by
  obtain ⟨h1, h2, h3, h4, h5, h6⟩ := right_num hr hk
  have hl1 : (frm v.n.natAbs).length ≤ 15 := frm_len_lt.2 (by omega)
  constructor
  · show (frm (v.n.natAbs * (if v.kind = 3 then 10 ^ v.q.toNat else 1))).length ≤ 120
    have hm := frm_len_mul v.n.natAbs (if v.kind = 3 then 10 ^ v.q.toNat else 1)
    have : (frm (if v.kind = 3 then 10 ^ v.q.toNat else 1)).length ≤ 100 := by
      split
      · rename_i hk3
        have := h4 hk3
        rw [frm_pow]; simp; omega
      · rw [frm_one]; decide
    omega
  · show (frm (if v.kind = 1 then 2 ^ v.q.toNat else if v.kind = 2 then 10 ^ v.q.toNat else 10 ^ (-v.q).toNat)).length ≤ 120
    split
    · rename_i hk1
      have := h3 (by omega)
      exact Nat.le_trans (frm_len_lt.2 (Nat.lt_of_le_of_lt (Nat.pow_le_pow_left (by decide : 2 ≤ 10) v.q.toNat) (Nat.pow_lt_pow_right (by decide) (show v.q.toNat < 32 by omega)))) (by decide)
    · split
      · rename_i hk2
        have := h3 (by omega)
        rw [frm_pow]; simp; omega
      · have := h4 (by omega)
        rw [frm_pow]; simp; omega
theorem abs_fit {x : Ex} {l : Nat} (h : ExFit x l) : ExFit (absE x) l := ⟨h.1, h.2⟩
theorem divG_eq (ra rb vt k1 k2 na nb b0 : Bool) : (if (if (if (if (if (if (!ra) = true then true else !rb) = true then true else !vt) = true then true else (if k1 = true then k2 else false)) = true then true else !na) = true then true else !nb) = true then true else b0) = (!ra || !rb || !vt || (k1 && k2) || !na || !nb || b0) := by
  cases ra <;> cases rb <;> cases vt <;> cases k1 <;> cases k2 <;> cases na <;> cases nb <;> cases b0 <;> rfl
abbrev exZ : List AV := [bv false, .val (.slice none 0 0), .val (.slice none 0 0)]
theorem l_divided (a b : Vl) (t : Typ) : CallT Tryz.prog 3 [.agg (vlE a), .agg (vlE b), .agg (typE t)] [] (fun o A => o = .ret (bv true) ∧ A = []) := by
  refine callS_body (n := 106) rfl rfl fun w ρ X => ?_
  refine runS_x (I := inf) (J := jnf) ⟨false, false, [], 0, 0⟩ 9999 rfl (by repeat (first | exact obs_nil | refine obs_draw (by kernel_rfl) ?_ | refine obs_same ?_ | refine obs_and ?_ | refine obs_by (by (simp [inB] <;> omega)) ?_)) ?_
  refine runS_call rfl rfl rfl rfl rfl rfl rfl (r_right a.kind a.n a.q a.s) ?_
  refine runS_x (I := inf) (J := jnf) ⟨false, false, [], 0, 0⟩ 9999 rfl (by repeat (first | exact obs_nil | refine obs_draw (by kernel_rfl) ?_ | refine obs_same ?_ | refine obs_and ?_ | refine obs_by (by (simp [inB] <;> omega)) ?_)) ?_
  refine runS_callU rfl rfl (by first | exact .v rfl rfl rfl rfl | exact .o rfl rfl rfl rfl) rfl rfl (by repeat (first | exact .nil | refine .cons (.n rfl) ?_ | refine .cons .o ?_ | refine .cons gok_and ?_)) rfl rfl rfl rfl rfl (fun _ => (r_right b.kind b.n b.q b.s)) ?_
  refine runS_x (I := inf) (J := jnf) ⟨false, false, [], 0, 0⟩ 9999 rfl (by repeat (first | exact obs_nil | refine obs_draw (by kernel_rfl) ?_ | refine obs_same ?_ | refine obs_and ?_ | refine obs_by (by (simp [inB] <;> omega)) ?_)) ?_
  refine runS_callU rfl rfl (by first | exact .v rfl rfl rfl rfl | exact .o rfl rfl rfl rfl) rfl rfl (by repeat (first | exact .nil | refine .cons (.n rfl) ?_ | refine .cons .o ?_ | refine .cons gok_and ?_)) rfl rfl rfl rfl rfl (fun _ => (r_valid t)) ?_
  refine runS_x (I := inf) (J := jnf) ⟨false, false, [], 0, 0⟩ 9999 rfl (by repeat (first | exact obs_nil | refine obs_draw (by kernel_rfl) ?_ | refine obs_same ?_ | refine obs_and ?_ | refine obs_by (by (simp [inB] <;> omega)) ?_)) ?_
  refine runS_callU rfl rfl (by first | exact .v rfl rfl rfl rfl | exact .o rfl rfl rfl rfl) rfl rfl (by repeat (first | exact .nil | refine .cons (.n rfl) ?_ | refine .cons .o ?_ | refine .cons gok_and ?_)) rfl rfl rfl rfl rfl (fun _ => (r_numeric a.kind)) ?_
  refine runS_x (I := inf) (J := jnf) ⟨false, false, [], 0, 0⟩ 9999 rfl (by repeat (first | exact obs_nil | refine obs_draw (by kernel_rfl) ?_ | refine obs_same ?_ | refine obs_and ?_ | refine obs_by (by (simp [inB] <;> omega)) ?_)) ?_
  refine runS_callU rfl rfl (by first | exact .v rfl rfl rfl rfl | exact .o rfl rfl rfl rfl) rfl rfl (by repeat (first | exact .nil | refine .cons (.n rfl) ?_ | refine .cons .o ?_ | refine .cons gok_and ?_)) rfl rfl rfl rfl rfl (fun _ => (r_numeric b.kind)) ?_
  refine runS_x (I := inf) (J := jnf) ⟨false, false, [], 0, 0⟩ 9999 rfl (by repeat (first | exact obs_nil | refine obs_draw (by kernel_rfl) ?_ | refine obs_same ?_ | refine obs_and ?_ | refine obs_by (by (simp [inB] <;> omega)) ?_)) ?_
  have hcd := divG_eq a.right b.right (validT t) (t.kind != 1) (t.kind != 2) (numK a.kind) (numK b.kind) (b.n == 0)
  refine runS_cond rfl (fun h => ?_) (fun h => ?_)
  · refine runS_x (I := inf) (J := jnf) ⟨false, false, [], 0, 0⟩ 9999 rfl (by repeat (first | exact obs_nil | refine obs_draw (by kernel_rfl) ?_ | refine obs_same ?_ | refine obs_and ?_ | refine obs_by (by (simp [inB] <;> omega)) ?_)) ?_
    refine runS_call rfl rfl rfl rfl rfl rfl rfl l_awake ?_
    refine runS_x (I := inf) (J := jnf) ⟨false, false, [], 0, 0⟩ 9999 rfl (by repeat (first | exact obs_nil | refine obs_draw (by kernel_rfl) ?_ | refine obs_same ?_ | refine obs_and ?_ | refine obs_by (by (simp [inB] <;> omega)) ?_)) ?_
    refine runS_ret (I := inf) 0 rfl (Nat.le_refl _) rfl .nil rfl ⟨?_, rfl⟩
    rfl
  · have h' := hcd.symm.trans h
    simp only [Bool.or_eq_false_iff, Bool.not_eq_false'] at h'
    obtain ⟨⟨⟨⟨⟨⟨hra, hrb⟩, hvt⟩, hkt⟩, hna⟩, hnb⟩, hb0⟩ := h'
    have hb0 : b.n ≠ 0 := by simpa using hb0
    have hkt : t.kind = 1 ∨ t.kind = 2 := by
      by_cases h1 : t.kind = 1
      · exact .inl h1
      · right
        simpa [h1] using hkt
    have hnt : numK t.kind = true := by rcases hkt with h | h <;> rw [h] <;> rfl
    have hask : askL (some t) [a, b] = 0 := by
      unfold askL
      rw [if_neg (by simp [hra, hrb]), if_neg (by simp [hvt]), if_neg (by simp [hna, hnb]), if_neg (by simp [hnt])]
    have hdv := d_Divide a b t hask hb0
    obtain ⟨P, Q, hP, hQ, hP1, hP2, hQ2, hkd⟩ := valid_num hvt hnt
    rw [show t.p.toNat = P by omega, show t.q.toNat = Q by omega] at hdv
    have hF : fitL t.kind P Q (Dg.quoL (ext a) (ext b) Q) 2 = (sgn (Dg.quoL (ext a) (ext b) Q).neg (mFix t.kind (Dg.quoL (ext a) (ext b) Q).m Q (Dg.quoL (ext a) (ext b) Q).exp % bsN t.kind ^ P), (Q : Int), if mFix t.kind (Dg.quoL (ext a) (ext b) Q).m Q (Dg.quoL (ext a) (ext b) Q).exp ≥ bsN t.kind ^ P then 2 else 0) := by
      unfold fitL
      rw [if_neg (by omega)]
    rw [hF] at hdv
    obtain ⟨ak, aq, haq⟩ : ∃ _ : a.kind = 1 ∨ a.kind = 2 ∨ a.kind = 3, ∃ _ : a.kind ≠ 3 → 0 ≤ a.q, True := ⟨(right_num hra hna).2.1, fun h => ((right_num hra hna).2.2.1 h).1, trivial⟩
    obtain ⟨bk, bq, hbq⟩ : ∃ _ : b.kind = 1 ∨ b.kind = 2 ∨ b.kind = 3, ∃ _ : b.kind ≠ 3 → 0 ≤ b.q, True := ⟨(right_num hrb hnb).2.1, fun h => ((right_num hrb hnb).2.2.1 h).1, trivial⟩
    by_cases hbig : mFix t.kind (Dg.quoL (ext a) (ext b) Q).m Q (Dg.quoL (ext a) (ext b) Q).exp ≥ bsN t.kind ^ P
    · rw [if_pos hbig] at hdv
      refine runS_x (I := inf) (J := jnf) ⟨false, false, [], 0, 0⟩ 9999 rfl (by repeat (first | exact obs_nil | refine obs_draw (by kernel_rfl) ?_ | refine obs_same ?_ | refine obs_and ?_ | refine obs_by (by (simp [inB] <;> omega)) ?_)) ?_
      refine runS_call rfl rfl rfl rfl rfl rfl rfl hdv ?_
      refine runS_x (I := inf) (J := jnf) ⟨false, false, [], 0, 0⟩ 9999 rfl (by repeat (first | exact obs_nil | refine obs_draw (by kernel_rfl) ?_ | refine obs_same ?_ | refine obs_and ?_ | refine obs_by (by (simp [inB] <;> omega)) ?_)) ?_
      refine runS_cond rfl (fun h => by cases h) (fun h => ?_)
      refine runS_x (I := inf) (J := jnf) ⟨false, false, [], 0, 0⟩ 9999 rfl (by repeat (first | exact obs_nil | refine obs_draw (by kernel_rfl) ?_ | refine obs_same ?_ | refine obs_and ?_ | refine obs_by (by (simp [inB] <;> omega)) ?_)) ?_
      refine runS_cond rfl (fun h => ?_) (fun h => by cases h)
      refine runS_x (I := inf) (J := jnf) ⟨false, false, [], 0, 0⟩ 9999 rfl (by repeat (first | exact obs_nil | refine obs_draw (by kernel_rfl) ?_ | refine obs_same ?_ | refine obs_and ?_ | refine obs_by (by (simp [inB] <;> omega)) ?_)) ?_
      refine runS_callU rfl rfl (by first | exact .v rfl rfl rfl rfl | exact .o rfl rfl rfl rfl) rfl rfl (by repeat (first | exact .nil | refine .cons (.n rfl) ?_ | refine .cons .o ?_ | refine .cons gok_and ?_)) rfl rfl rfl rfl rfl (fun _ => l_awake) ?_
      refine runS_x (I := inf) (J := jnf) ⟨false, false, [], 0, 0⟩ 9999 rfl (by repeat (first | exact obs_nil | refine obs_draw (by kernel_rfl) ?_ | refine obs_same ?_ | refine obs_and ?_ | refine obs_by (by (simp [inB] <;> omega)) ?_)) ?_
      refine runS_ret (I := inf) 0 rfl (Nat.le_refl _) rfl .nil rfl ⟨?_, rfl⟩
      rfl
    · rw [if_neg hbig, Nat.mod_eq_of_lt (by omega)] at hdv
      generalize hm : sgn (Dg.quoL (ext a) (ext b) Q).neg (mFix t.kind (Dg.quoL (ext a) (ext b) Q).m Q (Dg.quoL (ext a) (ext b) Q).exp) = m at hdv
      have hmn : m.natAbs = mFix t.kind (Dg.quoL (ext a) (ext b) Q).m Q (Dg.quoL (ext a) (ext b) Q).exp := by rw [← hm]; exact sgn_natAbs _ _
      obtain ⟨e1, e2⟩ := div_end (Q := Q) ak aq bk bq hb0 hkt hmn
      refine runS_x (I := inf) (J := jnf) ⟨false, false, [], 0, 0⟩ 9999 rfl (by repeat (first | exact obs_nil | refine obs_draw (by kernel_rfl) ?_ | refine obs_same ?_ | refine obs_and ?_ | refine obs_by (by (simp [inB] <;> omega)) ?_)) ?_
      refine runS_call rfl rfl rfl rfl rfl rfl rfl hdv ?_
      refine runS_x (I := inf) (J := jnf) ⟨false, false, [], 0, 0⟩ 9999 rfl (by repeat (first | exact obs_nil | refine obs_draw (by kernel_rfl) ?_ | refine obs_same ?_ | refine obs_and ?_ | refine obs_by (by (simp [inB] <;> omega)) ?_)) ?_
      refine runS_cond rfl (fun h => by cases h) (fun h => ?_)
      refine runS_x (I := inf) (J := jnf) ⟨false, false, [], 0, 0⟩ 9999 rfl (by repeat (first | exact obs_nil | refine obs_draw (by kernel_rfl) ?_ | refine obs_same ?_ | refine obs_and ?_ | refine obs_by (by (simp [inB] <;> omega)) ?_)) ?_
      refine runS_cond rfl (fun h => by cases h) (fun h => ?_)
      refine runS_x (I := inf) (J := jnf) ⟨false, false, [], 0, 0⟩ 9999 rfl (by repeat (first | exact obs_nil | refine obs_draw (by kernel_rfl) ?_ | refine obs_same ?_ | refine obs_and ?_ | refine obs_by (by (simp [inB] <;> omega)) ?_)) ?_
      have hbP : bsN t.kind ^ P ≤ (if t.kind = 1 then 2147483648 else 1000000000000000) := by
        unfold bsN
        rcases hkt with h | h
        · rw [if_pos h, if_pos h]
          exact Nat.le_trans (Nat.pow_le_pow_right (by decide) hP2) (by decide)
        · rw [if_neg (by omega), if_neg (by omega)]
          exact Nat.le_trans (Nat.pow_le_pow_right (by decide) (show P ≤ 15 by omega)) (by decide)
      have hml : m.natAbs < bsN t.kind ^ P := by omega
      have hrv : (⟨t.kind, m, Q, []⟩ : Vl).right = true := by
        clear e1 e2 hm hmn hbig
        unfold Vl.right rightB
        rcases hkt with h | h
        · rw [if_pos h] at hbP
          rw [if_pos h]
          simp
          omega
        · rw [if_neg (by omega)] at hbP
          rw [if_neg (show ¬ t.kind = 1 by omega), if_pos h]
          simp
          omega
      have hof1 := r_of ⟨t.kind, m, Q, []⟩ hrv hnt
      have hof2 := r_of a hra hna
      have hof3 := r_of b hrb hnb
      have hfv := of_fit hrv hnt
      have hfa := of_fit hra hna
      have hfb := of_fit hrb hnb
      dsimp only at hfv hof1
      generalize ofE t.kind m Q = qv at *
      generalize ofE a.kind a.n a.q = xv at *
      generalize ofE b.kind b.n b.q = yv at *
      refine runS_hole ?_
      refine runS_hole ?_
      refine runS_hole ?_
      refine runS_drawG (ch := []) (A2 := fun _ => []) 9 [6, 7, 8] (fun z => [.box 23 (vlE a), .box 23 (vlE b), .box 25 (typE t), .box 23 [iv t.kind, iv m, iv Q, sv []], cond (z.getD 0 false) (.row 35 3 1 1 (fun _ => exZ)) .hole, cond (z.getD 1 false) (.row 35 3 1 1 (fun _ => exZ)) .hole, cond (z.getD 2 false) (.row 35 3 1 1 (fun _ => exZ)) .hole]) none (c := 9) jnfI.draw (by kernel_rfl) rfl (lexg_g (I := inf) (J := jnf) none ⟨⟨⟨⟨_, rfl, (by repeat (first | exact obs_nil | refine obs_same ?_ | refine obs_and ?_ | refine obs_by (by (simp [inB] <;> omega)) ?_))⟩, (by first | exact .inl (by decide +kernel) | exact .inr ⟨_, rfl, (by repeat (first | exact obs_nil | refine obs_same ?_ | refine obs_and ?_ | refine obs_by (by (simp [inB] <;> omega)) ?_))⟩)⟩, (by first | exact .inl (by decide +kernel) | exact .inr ⟨⟨_, rfl, (by repeat (first | exact obs_nil | refine obs_same ?_ | refine obs_and ?_ | refine obs_by (by (simp [inB] <;> omega)) ?_))⟩, (by first | exact .inl (by decide +kernel) | exact .inr ⟨_, rfl, (by repeat (first | exact obs_nil | refine obs_same ?_ | refine obs_and ?_ | refine obs_by (by (simp [inB] <;> omega)) ?_))⟩)⟩)⟩, (by first | exact .inl (by decide +kernel) | exact .inr ⟨⟨⟨_, rfl, (by repeat (first | exact obs_nil | refine obs_same ?_ | refine obs_and ?_ | refine obs_by (by (simp [inB] <;> omega)) ?_))⟩, (by first | exact .inl (by decide +kernel) | exact .inr ⟨_, rfl, (by repeat (first | exact obs_nil | refine obs_same ?_ | refine obs_and ?_ | refine obs_by (by (simp [inB] <;> omega)) ?_))⟩)⟩, (by first | exact .inl (by decide +kernel) | exact .inr ⟨⟨_, rfl, (by repeat (first | exact obs_nil | refine obs_same ?_ | refine obs_and ?_ | refine obs_by (by (simp [inB] <;> omega)) ?_))⟩, (by first | exact .inl (by decide +kernel) | exact .inr ⟨_, rfl, (by repeat (first | exact obs_nil | refine obs_same ?_ | refine obs_and ?_ | refine obs_by (by (simp [inB] <;> omega)) ?_))⟩)⟩)⟩)⟩ rfl rfl rfl rfl (lexg_call rfl rfl rfl rfl rfl rfl rfl rfl rfl hof1 (lexg_g (I := inf) (J := jnf) none ⟨⟨⟨⟨_, rfl, (by repeat (first | exact obs_nil | refine obs_same ?_ | refine obs_and ?_ | refine obs_by (by (simp [inB] <;> omega)) ?_))⟩, (by first | exact .inl (by decide +kernel) | exact .inr ⟨_, rfl, (by repeat (first | exact obs_nil | refine obs_same ?_ | refine obs_and ?_ | refine obs_by (by (simp [inB] <;> omega)) ?_))⟩)⟩, (by first | exact .inl (by decide +kernel) | exact .inr ⟨⟨_, rfl, (by repeat (first | exact obs_nil | refine obs_same ?_ | refine obs_and ?_ | refine obs_by (by (simp [inB] <;> omega)) ?_))⟩, (by first | exact .inl (by decide +kernel) | exact .inr ⟨_, rfl, (by repeat (first | exact obs_nil | refine obs_same ?_ | refine obs_and ?_ | refine obs_by (by (simp [inB] <;> omega)) ?_))⟩)⟩)⟩, (by first | exact .inl (by decide +kernel) | exact .inr ⟨⟨⟨_, rfl, (by repeat (first | exact obs_nil | refine obs_same ?_ | refine obs_and ?_ | refine obs_by (by (simp [inB] <;> omega)) ?_))⟩, (by first | exact .inl (by decide +kernel) | exact .inr ⟨_, rfl, (by repeat (first | exact obs_nil | refine obs_same ?_ | refine obs_and ?_ | refine obs_by (by (simp [inB] <;> omega)) ?_))⟩)⟩, (by first | exact .inl (by decide +kernel) | exact .inr ⟨⟨_, rfl, (by repeat (first | exact obs_nil | refine obs_same ?_ | refine obs_and ?_ | refine obs_by (by (simp [inB] <;> omega)) ?_))⟩, (by first | exact .inl (by decide +kernel) | exact .inr ⟨_, rfl, (by repeat (first | exact obs_nil | refine obs_same ?_ | refine obs_and ?_ | refine obs_by (by (simp [inB] <;> omega)) ?_))⟩)⟩)⟩)⟩ rfl rfl rfl rfl (lexg_call rfl rfl rfl rfl rfl rfl rfl rfl rfl hof2 (lexg_g (I := inf) (J := jnf) none ⟨⟨⟨⟨_, rfl, (by repeat (first | exact obs_nil | refine obs_same ?_ | refine obs_and ?_ | refine obs_by (by (simp [inB] <;> omega)) ?_))⟩, (by first | exact .inl (by decide +kernel) | exact .inr ⟨_, rfl, (by repeat (first | exact obs_nil | refine obs_same ?_ | refine obs_and ?_ | refine obs_by (by (simp [inB] <;> omega)) ?_))⟩)⟩, (by first | exact .inl (by decide +kernel) | exact .inr ⟨⟨_, rfl, (by repeat (first | exact obs_nil | refine obs_same ?_ | refine obs_and ?_ | refine obs_by (by (simp [inB] <;> omega)) ?_))⟩, (by first | exact .inl (by decide +kernel) | exact .inr ⟨_, rfl, (by repeat (first | exact obs_nil | refine obs_same ?_ | refine obs_and ?_ | refine obs_by (by (simp [inB] <;> omega)) ?_))⟩)⟩)⟩, (by first | exact .inl (by decide +kernel) | exact .inr ⟨⟨⟨_, rfl, (by repeat (first | exact obs_nil | refine obs_same ?_ | refine obs_and ?_ | refine obs_by (by (simp [inB] <;> omega)) ?_))⟩, (by first | exact .inl (by decide +kernel) | exact .inr ⟨_, rfl, (by repeat (first | exact obs_nil | refine obs_same ?_ | refine obs_and ?_ | refine obs_by (by (simp [inB] <;> omega)) ?_))⟩)⟩, (by first | exact .inl (by decide +kernel) | exact .inr ⟨⟨_, rfl, (by repeat (first | exact obs_nil | refine obs_same ?_ | refine obs_and ?_ | refine obs_by (by (simp [inB] <;> omega)) ?_))⟩, (by first | exact .inl (by decide +kernel) | exact .inr ⟨_, rfl, (by repeat (first | exact obs_nil | refine obs_same ?_ | refine obs_and ?_ | refine obs_by (by (simp [inB] <;> omega)) ?_))⟩)⟩)⟩)⟩ rfl rfl rfl rfl (lexg_call rfl rfl rfl rfl rfl rfl rfl rfl rfl hof3 (lexg_b 4 rfl rfl ⟨⟨⟨⟨rfl, rfl⟩, (by first | exact .inl (by decide +kernel) | exact .inr ⟨rfl, rfl⟩)⟩, (by first | exact .inl (by decide +kernel) | exact .inr ⟨⟨rfl, rfl⟩, (by first | exact .inl (by decide +kernel) | exact .inr ⟨rfl, rfl⟩)⟩)⟩, .inl rfl⟩ rfl rfl rfl rfl (lexg_b 5 rfl rfl ⟨⟨⟨⟨rfl, rfl⟩, (by first | exact .inl (by decide +kernel) | exact .inr ⟨rfl, rfl⟩)⟩, .inl rfl⟩, (by first | exact .inl (by decide +kernel) | exact .inr ⟨⟨⟨rfl, rfl⟩, (by first | exact .inl (by decide +kernel) | exact .inr ⟨rfl, rfl⟩)⟩, .inl rfl⟩)⟩ rfl rfl rfl rfl (lexg_b 6 rfl rfl ⟨⟨⟨⟨rfl, rfl⟩, .inl rfl⟩, (by first | exact .inl (by decide +kernel) | exact .inr ⟨⟨rfl, rfl⟩, .inl rfl⟩)⟩, (by first | exact .inl (by decide +kernel) | exact .inr ⟨⟨⟨rfl, rfl⟩, .inl rfl⟩, (by first | exact .inl (by decide +kernel) | exact .inr ⟨⟨rfl, rfl⟩, .inl rfl⟩)⟩)⟩ rfl rfl rfl rfl lexg_nil))))))))) rfl (fun _ => ?_) (fun h => by cases h)
      refine runS_x (I := inf) (J := jnf) ⟨false, false, [], 0, 0⟩ 9999 rfl (by repeat (first | exact obs_nil | refine obs_draw (by kernel_rfl) ?_ | refine obs_same ?_ | refine obs_and ?_ | refine obs_by (by (simp [inB] <;> omega)) ?_)) ?_
      refine runS_tell 4 (fun _ => [bv false, natS none (frm qv.num), natS none (frm qv.den)]) rfl (m' := 1) rfl (fun j hj => by (obtain rfl : j = 0 := by omega); rfl) rfl ?_
      refine runS_tell 5 (fun _ => [bv false, natS none (frm xv.num), natS none (frm xv.den)]) rfl (m' := 1) rfl (fun j hj => by (obtain rfl : j = 0 := by omega); rfl) rfl ?_
      refine runS_tell 6 (fun _ => [bv false, natS none (frm yv.num), natS none (frm yv.den)]) rfl (m' := 1) rfl (fun j hj => by (obtain rfl : j = 0 := by omega); rfl) rfl ?_
      have hru : (⟨t.kind, 1, t.q, []⟩ : Vl).right = true := by
        unfold Vl.right rightB
        rw [hQ]
        rcases hkt with h | h
        · rw [if_pos h]
          simp
          omega
        · rw [if_neg (show ¬ t.kind = 1 by omega), if_pos h]
          simp
          omega
      have hofu := r_of ⟨t.kind, 1, t.q, []⟩ hru hnt
      have hfu := of_fit hru hnt
      dsimp only at hofu hfu
      rw [show ofE t.kind 1 t.q = ofE t.kind 1 Q by rw [hQ]] at hofu hfu
      generalize ofE t.kind 1 Q = uv1 at *
      refine runS_call rfl rfl rfl rfl rfl rfl rfl hofu ?_
      refine runS_x (I := inf) (J := jnf) ⟨false, false, [], 0, 0⟩ 9999 rfl (by repeat (first | exact obs_nil | refine obs_draw (by kernel_rfl) ?_ | refine obs_same ?_ | refine obs_and ?_ | refine obs_by (by (simp [inB] <;> omega)) ?_)) ?_
      have c1 := r_times (absE qv) (absE yv) ((abs_fit hfv).mono (by decide)) ((abs_fit hfb).mono (by decide))
      have f1 := times_fit (abs_fit hfv) (abs_fit hfb)
      have c2 := r_order (timesE (absE qv) (absE yv)) (absE xv) (f1.mono (by decide)) ((abs_fit hfa).mono (by decide))
      have c3 := r_both (absE qv) uv1 ((abs_fit hfv).mono (by decide)) (hfu.mono (by decide))
      have f3 := both_fit (abs_fit hfv) hfu
      have c4 := r_times (bothE (absE qv) uv1) (absE yv) (f3.mono (by decide)) ((abs_fit hfb).mono (by decide))
      have f4 := times_fit f3 (abs_fit hfb)
      have c5 := r_order (timesE (bothE (absE qv) uv1) (absE yv)) (absE xv) (f4.mono (by decide)) ((abs_fit hfa).mono (by decide))
      refine runS_draw 13 (by kernel_rfl) (lexj_x (I := inf) (J := jnf) 99 rfl rfl (by repeat (first | exact obs_nil | refine obs_same ?_ | refine obs_and ?_ | refine obs_by (by (simp [inB] <;> omega)) ?_)) (lexj_call rfl rfl rfl rfl rfl rfl rfl rfl c1 (lexj_x (I := inf) (J := jnf) 99 rfl rfl (by repeat (first | exact obs_nil | refine obs_same ?_ | refine obs_and ?_ | refine obs_by (by (simp [inB] <;> omega)) ?_)) (lexj_call rfl rfl rfl rfl rfl rfl rfl rfl c2 (lexj_x (I := inf) (J := jnf) 99 rfl rfl (by repeat (first | exact obs_nil | refine obs_same ?_ | refine obs_and ?_ | refine obs_by (by (simp [inB] <;> omega)) ?_)) (lexj_callU rfl rfl (by first | exact .v rfl rfl rfl rfl | exact .o rfl rfl rfl rfl) rfl rfl (by repeat (first | exact .nil | refine .cons (.n rfl) ?_ | refine .cons .o ?_ | refine .cons gok_and ?_)) rfl rfl rfl rfl rfl (fun hcond => c3) (lexj_x (I := inf) (J := jnf) 99 rfl rfl (by repeat (first | exact obs_nil | refine obs_same ?_ | refine obs_and ?_ | refine obs_by (by (simp [inB] <;> omega)) ?_)) (lexj_callU rfl rfl (by first | exact .v rfl rfl rfl rfl | exact .o rfl rfl rfl rfl) rfl rfl (by repeat (first | exact .nil | refine .cons (.n rfl) ?_ | refine .cons .o ?_ | refine .cons gok_and ?_)) rfl rfl rfl rfl rfl (fun hcond => c4) (lexj_x (I := inf) (J := jnf) 99 rfl rfl (by repeat (first | exact obs_nil | refine obs_same ?_ | refine obs_and ?_ | refine obs_by (by (simp [inB] <;> omega)) ?_)) lexj_nil))))))))) ?_
      refine runS_x (I := inf) (J := jnf) ⟨false, false, [], 0, 0⟩ 9999 rfl (by repeat (first | exact obs_nil | refine obs_draw (by kernel_rfl) ?_ | refine obs_same ?_ | refine obs_and ?_ | refine obs_by (by (simp [inB] <;> omega)) ?_)) ?_
      refine runS_callU rfl rfl (by first | exact .v rfl rfl rfl rfl | exact .o rfl rfl rfl rfl) rfl rfl (by repeat (first | exact .nil | refine .cons (.n rfl) ?_ | refine .cons .o ?_ | refine .cons gok_and ?_)) rfl rfl rfl rfl rfl (fun _ => c5) ?_
      refine runS_x (I := inf) (J := jnf) ⟨false, false, [], 0, 0⟩ 9999 rfl (by repeat (first | exact obs_nil | refine obs_draw (by kernel_rfl) ?_ | refine obs_same ?_ | refine obs_and ?_ | refine obs_by (by (simp [inB] <;> omega)) ?_)) ?_
      refine runS_callU rfl rfl (by first | exact .v rfl rfl rfl rfl | exact .o rfl rfl rfl rfl) rfl rfl (by repeat (first | exact .nil | refine .cons (.n rfl) ?_ | refine .cons .o ?_ | refine .cons gok_and ?_)) rfl rfl rfl rfl rfl (fun _ => l_awake) ?_
      refine runS_x (I := inf) (J := jnf) ⟨false, false, [], 0, 0⟩ 9999 rfl (by repeat (first | exact obs_nil | refine obs_draw (by kernel_rfl) ?_ | refine obs_same ?_ | refine obs_and ?_ | refine obs_by (by (simp [inB] <;> omega)) ?_)) ?_
      refine runS_ret (I := inf) 0 rfl (Nat.le_refl _) rfl .nil rfl ⟨?_, rfl⟩
      refine congrArg (fun x => Out.ret (bv x)) ?_
      rw [show decide (ordE (timesE (absE qv) (absE yv)) (absE xv) ≤ 0) = true from decide_eq_true e1, show decide (ordE (timesE (bothE (absE qv) uv1) (absE yv)) (absE xv) > 0) = true from decide_eq_true e2]
      rfl
end Go.Iron.Tryz
