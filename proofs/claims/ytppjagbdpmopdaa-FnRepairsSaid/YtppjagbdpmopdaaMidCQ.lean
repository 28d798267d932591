/- MiddleCard, RepairCard: three cards, strip by strip. -/
import Derived.Test.YtppjagbdpmopdaaAb32
import Derived.Test.YtppjagbdpmopdaaRepQ
import Derived.Test.YtppjagbdpmopdaaMidLawQ
import Derived.Test.YtppjagbdpmopdaaMarkSQ
namespace Go.Proofs.Ytppjagbdpmopdaa
set_option maxRecDepth 20000
set_option linter.unusedSimpArgs false
set_option linter.unusedVariables false
open Go Go.Ab
/-- a result whose card holds nil -/
theorem AC_nilcard {P : Program} {g : FuncId} {args : List AV} {h : Heap} {a b d : Value} (e : TypeId) (es : Nat)
    (hc : AC P g args h fun c h' => c = .tup [.agg [.raw a, .raw b, .raw (.slice none 0 0)], .raw d] ∧ ∃ ext, h' = h ++ ext) :
    AC P g args h fun c h' => c = .tup [.agg [.raw a, .raw b, .own h.length es 0], .raw d] ∧ h' = h ++ [⟨.row e es, []⟩] := by
  have h1 : AC P g args h fun c h' => c = .tup [.agg [.raw a, .raw b, .raw (.slice none 0 0)], .raw d] ∧ h' = h :=
    hc.front fun hcl c h' ⟨hce, ext, he⟩ => ⟨h, ext, he, hcl, Heap.le_refl _, by rw [hce]; rfl, hce, rfl⟩
  intro w0 μ w xs H hv hk
  refine (h1 w0 μ w xs H hv hk).mono fun x w' ⟨μ', c, h', ⟨q1, q2⟩, hvx, hck, H', hE, hL⟩ => ?_
  subst q1; subst q2
  refine ⟨_, _, _, ⟨rfl, rfl⟩, ?_, ?_, H'.nilrow e es, hE.trans hL (Ext.grow _ _), Heap.le_trans hL (Heap.le_append _ _)⟩
  · cases hvx with
    | tup hl hp =>
      refine .tup (by simpa using hl) fun i c y hi hy => ?_
      match i, hi with
      | 0, hi =>
        simp at hi; subst hi
        have hq := hp 0 _ y rfl hy
        cases hq with
        | agg hl2 hp2 =>
          refine .agg (by simpa using hl2) fun j c z hj hz => ?_
          match j, hj with
          | 0, hj => simp at hj; subst hj; rw [raw_val (hp2 0 _ z rfl hz)]; exact .raw _
          | 1, hj => simp at hj; subst hj; rw [raw_val (hp2 1 _ z rfl hz)]; exact .raw _
          | 2, hj => simp at hj; subst hj; rw [raw_val (hp2 2 _ z rfl hz)]; exact vr_nilrow e es
          | j + 3, hj => simp at hj
      | 1, hi => simp at hi; subst hi; rw [raw_val (hp 1 _ y rfl hy)]; exact .raw _
      | i + 2, hi => simp at hi
  · simp [AV.ok, okAll, refOk, csz]
/-- Of the rows that a call has made one, of plain cells, is kept: whichever it was. -/
theorem AC_row1x {P : Program} {g : FuncId} {args : List AV} {h : Heap} (F : Nat → AV) (b : Blk) (hF : ∀ ρ i, (F i).ren ρ = F (ρ i)) (hok : (F h.length).ok (h ++ [b]) = true) (hb : ∀ h, okAll h b.cells = true) (hr : ∀ ρ, renL ρ b.cells = b.cells)
    (hc : AC P g args h fun c h' => ∃ p junk, c = F (h.length + p) ∧ h' = h ++ junk ∧ junk[p]? = some b) : AC P g args h fun c h' => c = F h.length ∧ h' = h ++ [b] :=
  hc.keep fun hcl c h' ⟨p, junk, hce, hh, hp⟩ => by
    subst hh; subst hce
    refine ⟨plc h [p], h ++ [b], F h.length, keeps_list hcl (by simp) rfl (fun j b' p' hb' hp' => ?_), closedH_append hcl (fun b' hb' => ?_), Heap.le_append _ _, hok, ?_, rfl, rfl⟩
    · cases j with
      | zero => simp at hb' hp'; subst hb'; subst hp'; rw [hp, hr]
      | succ j => simp at hb'
    · simp at hb'; subst hb'; exact hb _
    · rw [hF]; simp [plc]
/-- strip by strip -/
def map3 (m : ByteArray → ByteArray → ByteArray → ByteArray) (xs ys zs : List ByteArray) : Nat → List ByteArray
  | 0 => []
  | k + 1 => map3 m xs ys zs k ++ [m (xs.getD k ⟨#[]⟩) (ys.getD k ⟨#[]⟩) (zs.getD k ⟨#[]⟩)]
theorem map3_len (m : ByteArray → ByteArray → ByteArray → ByteArray) (xs ys zs : List ByteArray) : ∀ k, (map3 m xs ys zs k).length = k
  | 0 => rfl
  | k + 1 => by rw [map3, List.length_append, map3_len m xs ys zs k]; rfl
theorem map3_succ {m : ByteArray → ByteArray → ByteArray → ByteArray} {xs ys zs : List ByteArray} {k : Nat} {x y z : ByteArray} (hx : xs[k]? = some x) (hy : ys[k]? = some y) (hz : zs[k]? = some z) : map3 m xs ys zs (k + 1) = map3 m xs ys zs k ++ [m x y z] := by
  rw [map3]; simp [List.getD, hx, hy, hz]
def okT (d f : Int) (xs : List ByteArray) (d' f' : Int) (ys : List ByteArray) (d2 f2 : Int) (zs : List ByteArray) : Bool := alikeB d f xs d' f' ys && alikeB d f xs d2 f2 zs
abbrev resC (d f : Int) (i n : Nat) (b : Bool) : AV := .tup [cdV d f i n, VB b]
def pickL (b : Bool) (xs : List ByteArray) : List ByteArray := if b = true then xs else []
def pickI (b : Bool) (d : Int) : Int := if b = true then d else 0
/-- no strip of the first k is missed -/
def allN (xs ls hs : List ByteArray) : Nat → Bool
  | 0 => true
  | k + 1 => allN xs ls hs k && !decide (nearB (ls.getD k ⟨#[]⟩) (xs.getD k ⟨#[]⟩) (hs.getD k ⟨#[]⟩) = ⟨#[]⟩)
theorem allN_succ {xs ls hs : List ByteArray} {k : Nat} {x y z : ByteArray} (hx : xs[k]? = some x) (hy : ls[k]? = some y) (hz : hs[k]? = some z) : allN xs ls hs (k + 1) = (allN xs ls hs k && !decide (nearB y x z = ⟨#[]⟩)) := by
  rw [allN]; simp [List.getD, hx, hy, hz]
theorem allN_bad {xs ls hs : List ByteArray} {k n : Nat} (h : allN xs ls hs k = false) (hn : k ≤ n) : allN xs ls hs n = false := by
  induction n with
  | zero => obtain rfl : k = 0 := by omega
            exact h
  | succ n ih =>
    rcases Nat.lt_or_ge n k with h' | h'
    · obtain rfl : k = n + 1 := by omega
      exact h
    · rw [allN, ih h']; rfl
def rep3 (d f : Int) (xs : List ByteArray) (d' f' : Int) (ys : List ByteArray) (d2 f2 : Int) (zs : List ByteArray) : Bool := okT d f xs d' f' ys d2 f2 zs && allN xs ys zs xs.length
def repX (d f : Int) (xs : List ByteArray) (d' f' : Int) (ys : List ByteArray) (d2 f2 : Int) (zs : List ByteArray) : List ByteArray := pickL (rep3 d f xs d' f' ys d2 f2 zs) (map3 (fun x l h => nearB l x h) xs ys zs xs.length)
theorem near_room (l s t : ByteArray) : (nearB l s t).size ≤ 1048576 := by
  unfold nearB; split
  · exact low_room _ _
  · exact Nat.zero_le _
set_option maxHeartbeats 1000000 in
theorem implRepC_ok (d f : Int) (xs : List ByteArray) (d' f' : Int) (ys : List ByteArray) (d2 f2 : Int) (zs : List ByteArray) (i j k : Nat) (hn : xs.length ≤ 1048576) (hx : ∀ x ∈ xs, x.size ≤ 1048576) (hm : ys.length ≤ 1048576) (hy : ∀ y ∈ ys, y.size ≤ 1048576) (hp : zs.length ≤ 1048576) (hz : ∀ z ∈ zs, z.size ≤ 1048576) (h : Heap) (h1 : rd h i xs.length = some (rowS xs)) (h2 : rd h j ys.length = some (rowS ys)) (h3 : rd h k zs.length = some (rowS zs)) :
    AC Try.prog 26 [cdV d f i xs.length, cdV d' f' j ys.length, cdV d2 f2 k zs.length] h fun r h' => r = resC (pickI (rep3 d f xs d' f' ys d2 f2 zs) d) (pickI (rep3 d f xs d' f' ys d2 f2 zs) f) h.length (repX d f xs d' f' ys d2 f2 zs).length (rep3 d f xs d' f' ys d2 f2 zs) ∧ h' = h ++ [rowT (repX d f xs d' f' ys d2 f2 zs)] := by
  have hrd : ∀ l, rd (h ++ l) i xs.length = some (rowS xs) := fun l => rd_old h1 l
  have hsd : ∀ l, sz (h ++ l) i = some xs.length := fun l => sz_old h1 l
  have hrd2 : ∀ l, rd (h ++ l) j ys.length = some (rowS ys) := fun l => rd_old h2 l
  have hsd2 : ∀ l, sz (h ++ l) j = some ys.length := fun l => sz_old h2 l
  have hrd3 : ∀ l, rd (h ++ l) k zs.length = some (rowS zs) := fun l => rd_old h3 l
  have hsd3 : ∀ l, sz (h ++ l) k = some zs.length := fun l => sz_old h3 l
  have hrk : ∀ l, refOk (h ++ l) i xs.length = true := fun l => refOk_ext (refOk_sz (sz_of h1))
  have hrk2 : ∀ l, refOk (h ++ l) j ys.length = true := fun l => refOk_ext (refOk_sz (sz_of h2))
  have hrk3 : ∀ l, refOk (h ++ l) k zs.length = true := fun l => refOk_ext (refOk_sz (sz_of h3))
  have i1 := rd_lt h1
  have i2 := rd_lt h2
  have i3 := rd_lt h3
  have a1 := fun H => implAlike_ok d f xs d' f' ys i j hn hx hm hy H
  have a2 := fun H => implAlike_ok d f xs d2 f2 zs i k hn hx hp hz H
  have hO : okT d f xs d' f' ys d2 f2 zs = (alikeB d f xs d' f' ys && alikeB d f xs d2 f2 zs) := rfl
  have hR : rep3 d f xs d' f' ys d2 f2 zs = (okT d f xs d' f' ys d2 f2 zs && allN xs ys zs xs.length) := rfl
  cases hB : rep3 d f xs d' f' ys d2 f2 zs with
  | false =>
    have hX : repX d f xs d' f' ys d2 f2 zs = [] := by rw [repX, hB]; rfl
    rw [hX]
    refine AC.mono (AC_nilcard (a := .int .i64 0) (b := .int .i64 0) (d := .bool false) 9 1 ?_) fun c h' ⟨q1, q2⟩ => ⟨by rw [q1]; rfl, by rw [q2]; rfl⟩
    refine AC_go mixed ok26 (by simp) fun hc _ => ?_
    unfold L26
    clear hX
    cases e1 : alikeB d f xs d' f' ys with
    | false =>
      rw [e1] at a1
      clear hB hO hR e1
      repeat' (first | simp -implicitDefEqProofs only [Ab.R1, Ab.R2, Ab.R3, Ab.R4, Ab.R5, Ab.RH, Ab.RM, Ab.binV, Ab.binC, Nat.reduceLT, Nat.reduceBEq, Nat.reduceAdd, Nat.reduceMul, Nat.reduceEqDiff, Nat.reduceLeDiff, Nat.reduceSub, List.getElem?_cons_zero, List.getElem?_cons_succ, List.getElem?_nil, Option.getD_some, Option.getD_none, if_true, if_false, reduceIte, Option.map_some, Option.map_none, Option.bind_some, Option.bind_none, Option.isSome_some, List.map_cons, List.map_nil, AV.cells, List.length_cons, List.length_nil, List.all_cons, List.all_nil, AV.one, Value.oneCell', ne_eq, reduceCtorEq, Int.reduceNeg, Int.reduceEq, Int.reduceNe, Int.reduceAdd, Int.reduceSub, Int.reduceMul, Int.reduceLT, Int.reduceLE, Int.reduceToNat, List.drop_zero, List.take_zero, List.drop_succ_cons, List.take_succ_cons, List.nil_append, List.cons_append, List.append_nil, List.replicate_zero, List.flatten_nil, List.flatten_cons, List.reduceReplicate, ge_iff_le, gt_iff_lt, eq_self, Nat.add_assoc, facts, *] | simp (disch := omega) only [Ab.wrap_i64] | ((with_reducible refine Ab.gd_ndec (fun _ => ?_) (fun _ => ?_)) <;> try (exfalso; omega)) | ((with_reducible refine Ab.br_ndec (fun _ => ?_) (fun _ => ?_)) <;> try (exfalso; omega)) | ((with_reducible refine Ab.gd_dec (fun _ => ?_) (fun _ => ?_)) <;> try (exfalso; omega)) | ((with_reducible refine Ab.br_dec (fun _ => ?_) (fun _ => ?_)) <;> try (exfalso; omega)) | (with_reducible refine Ab.run_alt ?_ ?_) | (refine And.intro (by omega) ?_) | (refine gd_split (fun _ => ?_) (fun _ => ?_)) | (refine br_split (fun _ => ?_) (fun _ => ?_)) | (refine cl_same (a1 _ (hrd _) (hrd2 _)) ?_) | omega)
      all_goals exact ⟨_, rfl⟩
    | true =>
      rw [e1] at a1
      cases e2 : alikeB d f xs d2 f2 zs with
      | false =>
        rw [e2] at a2
        clear hB hO hR e1 e2
        repeat' (first | simp -implicitDefEqProofs only [Ab.R1, Ab.R2, Ab.R3, Ab.R4, Ab.R5, Ab.RH, Ab.RM, Ab.binV, Ab.binC, Nat.reduceLT, Nat.reduceBEq, Nat.reduceAdd, Nat.reduceMul, Nat.reduceEqDiff, Nat.reduceLeDiff, Nat.reduceSub, List.getElem?_cons_zero, List.getElem?_cons_succ, List.getElem?_nil, Option.getD_some, Option.getD_none, if_true, if_false, reduceIte, Option.map_some, Option.map_none, Option.bind_some, Option.bind_none, Option.isSome_some, List.map_cons, List.map_nil, AV.cells, List.length_cons, List.length_nil, List.all_cons, List.all_nil, AV.one, Value.oneCell', ne_eq, reduceCtorEq, Int.reduceNeg, Int.reduceEq, Int.reduceNe, Int.reduceAdd, Int.reduceSub, Int.reduceMul, Int.reduceLT, Int.reduceLE, Int.reduceToNat, List.drop_zero, List.take_zero, List.drop_succ_cons, List.take_succ_cons, List.nil_append, List.cons_append, List.append_nil, List.replicate_zero, List.flatten_nil, List.flatten_cons, List.reduceReplicate, ge_iff_le, gt_iff_lt, eq_self, Nat.add_assoc, facts, *] | simp (disch := omega) only [Ab.wrap_i64] | ((with_reducible refine Ab.gd_ndec (fun _ => ?_) (fun _ => ?_)) <;> try (exfalso; omega)) | ((with_reducible refine Ab.br_ndec (fun _ => ?_) (fun _ => ?_)) <;> try (exfalso; omega)) | ((with_reducible refine Ab.gd_dec (fun _ => ?_) (fun _ => ?_)) <;> try (exfalso; omega)) | ((with_reducible refine Ab.br_dec (fun _ => ?_) (fun _ => ?_)) <;> try (exfalso; omega)) | (with_reducible refine Ab.run_alt ?_ ?_) | (refine And.intro (by omega) ?_) | (refine gd_split (fun _ => ?_) (fun _ => ?_)) | (refine br_split (fun _ => ?_) (fun _ => ?_)) | (refine cl_same (a1 _ (hrd _) (hrd2 _)) ?_) | (refine cl_same (a2 _ (hrd _) (hrd3 _)) ?_) | omega)
        all_goals exact ⟨_, rfl⟩
      | true =>
        have hall : allN xs ys zs xs.length = false := by rw [hR, hO, e1, e2] at hB; exact hB
        clear hR hB
        have l1 := Nat.le_of_eq (alike_iff.1 e1).5
        have l2 := Nat.le_of_eq (alike_iff.1 e2).5
        have l10 := (alike_iff.1 e1).1.3
        try rw [e1] at a1
        try rw [e2] at a2
        clear hO e1 e2
        have z0 : map3 (fun x l h => nearB l x h) xs ys zs 0 = [] := rfl
        repeat' (first | simp -implicitDefEqProofs only [Ab.R1, Ab.R2, Ab.R3, Ab.R4, Ab.R5, Ab.RH, Ab.RM, Ab.binV, Ab.binC, Nat.reduceLT, Nat.reduceBEq, Nat.reduceAdd, Nat.reduceMul, Nat.reduceEqDiff, Nat.reduceLeDiff, Nat.reduceSub, List.getElem?_cons_zero, List.getElem?_cons_succ, List.getElem?_nil, Option.getD_some, Option.getD_none, if_true, if_false, reduceIte, Option.map_some, Option.map_none, Option.bind_some, Option.bind_none, Option.isSome_some, List.map_cons, List.map_nil, AV.cells, List.length_cons, List.length_nil, List.all_cons, List.all_nil, AV.one, Value.oneCell', ne_eq, reduceCtorEq, Int.reduceNeg, Int.reduceEq, Int.reduceNe, Int.reduceAdd, Int.reduceSub, Int.reduceMul, Int.reduceLT, Int.reduceLE, Int.reduceToNat, List.drop_zero, List.take_zero, List.drop_succ_cons, List.take_succ_cons, List.nil_append, List.cons_append, List.append_nil, List.replicate_zero, List.flatten_nil, List.flatten_cons, List.reduceReplicate, ge_iff_le, gt_iff_lt, eq_self, Nat.add_assoc, facts, *] | simp (disch := omega) only [Ab.wrap_i64] | ((with_reducible refine Ab.gd_ndec (fun _ => ?_) (fun _ => ?_)) <;> try (exfalso; omega)) | ((with_reducible refine Ab.br_ndec (fun _ => ?_) (fun _ => ?_)) <;> try (exfalso; omega)) | ((with_reducible refine Ab.gd_dec (fun _ => ?_) (fun _ => ?_)) <;> try (exfalso; omega)) | ((with_reducible refine Ab.br_dec (fun _ => ?_) (fun _ => ?_)) <;> try (exfalso; omega)) | (with_reducible refine Ab.run_alt ?_ ?_) | (refine And.intro (by omega) ?_) | (refine gd_split (fun _ => ?_) (fun _ => ?_)) | (refine br_split (fun _ => ?_) (fun _ => ?_)) | (refine cl_same (a1 _ (hrd _) (hrd2 _)) ?_) | (refine cl_same (a2 _ (hrd _) (hrd3 _)) ?_) | omega)
        refine lw_nilcell (h.length + 4) 2 9 1 (e1 := 32) (es1 := 3) (cells := [VI d, VI f, .raw (.slice none 0 0)]) (by rw [get_new]; rfl) rfl ?_
        simp -implicitDefEqProofs only [Ab.R1, Ab.R2, Ab.R3, Ab.R4, Ab.R5, Ab.RH, Ab.RM, Ab.binV, Ab.binC, Nat.reduceLT, Nat.reduceBEq, Nat.reduceAdd, Nat.reduceMul, Nat.reduceEqDiff, Nat.reduceLeDiff, Nat.reduceSub, List.getElem?_cons_zero, List.getElem?_cons_succ, List.getElem?_nil, Option.getD_some, Option.getD_none, if_true, if_false, reduceIte, Option.map_some, Option.map_none, Option.bind_some, Option.bind_none, Option.isSome_some, List.map_cons, List.map_nil, AV.cells, List.length_cons, List.length_nil, List.all_cons, List.all_nil, AV.one, Value.oneCell', ne_eq, reduceCtorEq, Int.reduceNeg, Int.reduceEq, Int.reduceNe, Int.reduceAdd, Int.reduceSub, Int.reduceMul, Int.reduceLT, Int.reduceLE, Int.reduceToNat, List.drop_zero, List.take_zero, List.drop_succ_cons, List.take_succ_cons, List.nil_append, List.cons_append, List.append_nil, List.replicate_zero, List.flatten_nil, List.flatten_cons, List.reduceReplicate, ge_iff_le, gt_iff_lt, eq_self, Nat.add_assoc, facts]
        refine lw_loopS K26b0 (fun q : Nat => [(31, VI q)]) (fun q => h ++ [⟨.row 32 3, [VI d, VI f, .own i 1 xs.length]⟩, ⟨.row 32 3, [VI d', VI f', .own j 1 ys.length]⟩, ⟨.row 32 3, [VI d2, VI f2, .own k 1 zs.length]⟩, ⟨.row 32 3, [VI 0, VI 0, .raw (.slice none 0 0)]⟩, ⟨.row 32 3, [VI d, VI f, .own (h.length + 5) 1 q]⟩, rowT (map3 (fun x l h => nearB l x h) xs ys zs q)]) (fun q => q ≤ xs.length ∧ allN xs ys zs q = true) (fun q => xs.length - q) 0 ⟨by omega, rfl⟩ rfl (by (simp -implicitDefEqProofs only [Ab.R1, Ab.R2, Ab.R3, Ab.R4, Ab.R5, Ab.RH, Ab.RM, Ab.binV, Ab.binC, Nat.reduceLT, Nat.reduceBEq, Nat.reduceAdd, Nat.reduceMul, Nat.reduceEqDiff, Nat.reduceLeDiff, Nat.reduceSub, List.getElem?_cons_zero, List.getElem?_cons_succ, List.getElem?_nil, Option.getD_some, Option.getD_none, if_true, if_false, reduceIte, Option.map_some, Option.map_none, Option.bind_some, Option.bind_none, Option.isSome_some, List.map_cons, List.map_nil, AV.cells, List.length_cons, List.length_nil, List.all_cons, List.all_nil, AV.one, Value.oneCell', ne_eq, reduceCtorEq, Int.reduceNeg, Int.reduceEq, Int.reduceNe, Int.reduceAdd, Int.reduceSub, Int.reduceMul, Int.reduceLT, Int.reduceLE, Int.reduceToNat, List.drop_zero, List.take_zero, List.drop_succ_cons, List.take_succ_cons, List.nil_append, List.cons_append, List.append_nil, List.replicate_zero, List.flatten_nil, List.flatten_cons, List.reduceReplicate, ge_iff_le, gt_iff_lt, eq_self, Nat.add_assoc, facts] <;> first | rfl | exact ⟨rfl, rfl⟩ | exact ⟨rfl, rfl, rfl⟩ | (simp; done))) ?_ ?_
        · intro _ q hq
          have hl := map3_len (fun x l h => nearB l x h) xs ys zs q
          have hl2 := rowS_len (map3 (fun x l h => nearB l x h) xs ys zs q)
          rw [hl] at hl2
          refine .app hc ?_ ?_ ?_
          · simp only [Ab.leB_cons, Ab.leB_nil, Ab.ok_raw, Ab.ok_own, Ab.ok_ptr, Ab.ok_sub, Ab.okAll_nil, Ab.okAll_cons, Ab.refOk_app, Ab.refOk_app0, Ab.okB_zero, Ab.okB_succ, Ab.rowI_ok, Ab.rowB_ok, Ab.rowS_ok, Ab.rowU_ok, Ab.rowI_len, Ab.rowB_len, Ab.rowS_len, Ab.rowU_len, List.mem_cons, List.not_mem_nil, or_false, forall_eq, forall_eq_or_imp, List.forall_mem_cons, List.length_replicate, and_true, true_and, and_self, Nat.le_refl, Nat.zero_le, implies_true, List.length_set, List.length_append, List.length_cons, List.length_nil, List.length_map, Bool.and_true, Bool.true_and, Bool.and_self, decide_true, decide_eq_true_eq, hrk, hrk2, hrk3, rowS_ok, hl2, Nat.mul_one]
          · simp only [Ab.leB_cons, Ab.leB_nil, Ab.ok_raw, Ab.ok_own, Ab.ok_ptr, Ab.ok_sub, Ab.okAll_nil, Ab.okAll_cons, Ab.refOk_app, Ab.refOk_app0, Ab.okB_zero, Ab.okB_succ, Ab.rowI_ok, Ab.rowB_ok, Ab.rowS_ok, Ab.rowU_ok, Ab.rowI_len, Ab.rowB_len, Ab.rowS_len, Ab.rowU_len, List.mem_cons, List.not_mem_nil, or_false, forall_eq, forall_eq_or_imp, List.forall_mem_cons, List.length_replicate, and_true, true_and, and_self, Nat.le_refl, Nat.zero_le, implies_true, List.length_set, List.length_append, List.length_cons, List.length_nil, List.length_map, Bool.and_true, Bool.true_and, Bool.and_self, decide_true, decide_eq_true_eq, hl2] <;> omega
          · simp only [Ab.leB_cons, Ab.leB_nil, Ab.ok_raw, Ab.ok_own, Ab.ok_ptr, Ab.ok_sub, Ab.okAll_nil, Ab.okAll_cons, Ab.refOk_app, Ab.refOk_app0, Ab.okB_zero, Ab.okB_succ, Ab.rowI_ok, Ab.rowB_ok, Ab.rowS_ok, Ab.rowU_ok, Ab.rowI_len, Ab.rowB_len, Ab.rowS_len, Ab.rowU_len, List.mem_cons, List.not_mem_nil, or_false, forall_eq, forall_eq_or_imp, List.forall_mem_cons, List.length_replicate, and_true, true_and, and_self, Nat.le_refl, Nat.zero_le, implies_true, List.length_set, List.length_append, List.length_cons, List.length_nil, List.length_map, Bool.and_true, Bool.true_and, Bool.and_self, decide_true, decide_eq_true_eq]
        · intro q ⟨hi, hal⟩ _
          refine lw_run mixed ?_
          unfold L26b0 K26b0
          have hl := map3_len (fun x l h => nearB l x h) xs ys zs q
          have hl2 := rowS_len (map3 (fun x l h => nearB l x h) xs ys zs q)
          rw [hl] at hl2
          rcases Nat.lt_or_ge q xs.length with hlt | hge
          · obtain ⟨x, hxq⟩ := some_at hlt
            obtain ⟨y, hyq⟩ := some_at (show q < ys.length by omega)
            obtain ⟨z, hzq⟩ := some_at (show q < zs.length by omega)
            have zx := hx x (List.mem_of_getElem? hxq)
            have zy := hy y (List.mem_of_getElem? hyq)
            have zz := hz z (List.mem_of_getElem? hzq)
            have hs := map3_succ (m := (fun x l h => nearB l x h)) hxq hyq hzq
            have hcall := fun H => implNear_ok y x z zy zx zz H
            have han := allN_succ hxq hyq hzq
            rw [hal, Bool.true_and] at han
            try dsimp only at hs
            generalize nearB y x z = w at hs hcall han
            have hsn := rowS_snoc (map3 (fun x l h => nearB l x h) xs ys zs q) w
            rw [← hs] at hsn
            by_cases hw : w = ⟨#[]⟩
            · subst hw
              have hq := bEq_self ⟨#[]⟩
              clear hs han hal a1 a2 hall hsn
              repeat' (first | simp -implicitDefEqProofs only [Ab.R1, Ab.R2, Ab.R3, Ab.R4, Ab.R5, Ab.RH, Ab.RM, Ab.binV, Ab.binC, Nat.reduceLT, Nat.reduceBEq, Nat.reduceAdd, Nat.reduceMul, Nat.reduceEqDiff, Nat.reduceLeDiff, Nat.reduceSub, List.getElem?_cons_zero, List.getElem?_cons_succ, List.getElem?_nil, Option.getD_some, Option.getD_none, if_true, if_false, reduceIte, Option.map_some, Option.map_none, Option.bind_some, Option.bind_none, Option.isSome_some, List.map_cons, List.map_nil, AV.cells, List.length_cons, List.length_nil, List.all_cons, List.all_nil, AV.one, Value.oneCell', ne_eq, reduceCtorEq, Int.reduceNeg, Int.reduceEq, Int.reduceNe, Int.reduceAdd, Int.reduceSub, Int.reduceMul, Int.reduceLT, Int.reduceLE, Int.reduceToNat, List.drop_zero, List.take_zero, List.drop_succ_cons, List.take_succ_cons, List.nil_append, List.cons_append, List.append_nil, List.replicate_zero, List.flatten_nil, List.flatten_cons, List.reduceReplicate, ge_iff_le, gt_iff_lt, eq_self, Nat.add_assoc, facts, *, rowS_at] | simp (disch := omega) only [Ab.wrap_i64] | ((with_reducible refine Ab.gd_ndec (fun _ => ?_) (fun _ => ?_)) <;> try (exfalso; omega)) | ((with_reducible refine Ab.br_ndec (fun _ => ?_) (fun _ => ?_)) <;> try (exfalso; omega)) | ((with_reducible refine Ab.gd_dec (fun _ => ?_) (fun _ => ?_)) <;> try (exfalso; omega)) | ((with_reducible refine Ab.br_dec (fun _ => ?_) (fun _ => ?_)) <;> try (exfalso; omega)) | (with_reducible refine Ab.run_alt ?_ ?_) | (refine And.intro (by omega) ?_) | (refine gd_split (fun _ => ?_) (fun _ => ?_)) | (refine br_split (fun _ => ?_) (fun _ => ?_)) | (refine cl_same (hcall _) ?_) | omega)
              all_goals exact ⟨_, rfl⟩
            · have hq := bEq_ne hw
              have han' : allN xs ys zs (q + 1) = true := by rw [han, decide_eq_false hw]; rfl
              clear hs han a1 a2
              repeat' (first | simp -implicitDefEqProofs only [Ab.R1, Ab.R2, Ab.R3, Ab.R4, Ab.R5, Ab.RH, Ab.RM, Ab.binV, Ab.binC, Nat.reduceLT, Nat.reduceBEq, Nat.reduceAdd, Nat.reduceMul, Nat.reduceEqDiff, Nat.reduceLeDiff, Nat.reduceSub, List.getElem?_cons_zero, List.getElem?_cons_succ, List.getElem?_nil, Option.getD_some, Option.getD_none, if_true, if_false, reduceIte, Option.map_some, Option.map_none, Option.bind_some, Option.bind_none, Option.isSome_some, List.map_cons, List.map_nil, AV.cells, List.length_cons, List.length_nil, List.all_cons, List.all_nil, AV.one, Value.oneCell', ne_eq, reduceCtorEq, Int.reduceNeg, Int.reduceEq, Int.reduceNe, Int.reduceAdd, Int.reduceSub, Int.reduceMul, Int.reduceLT, Int.reduceLE, Int.reduceToNat, List.drop_zero, List.take_zero, List.drop_succ_cons, List.take_succ_cons, List.nil_append, List.cons_append, List.append_nil, List.replicate_zero, List.flatten_nil, List.flatten_cons, List.reduceReplicate, ge_iff_le, gt_iff_lt, eq_self, Nat.add_assoc, facts, *, rowS_at] | simp (disch := omega) only [Ab.wrap_i64] | ((with_reducible refine Ab.gd_ndec (fun _ => ?_) (fun _ => ?_)) <;> try (exfalso; omega)) | ((with_reducible refine Ab.br_ndec (fun _ => ?_) (fun _ => ?_)) <;> try (exfalso; omega)) | ((with_reducible refine Ab.gd_dec (fun _ => ?_) (fun _ => ?_)) <;> try (exfalso; omega)) | ((with_reducible refine Ab.br_dec (fun _ => ?_) (fun _ => ?_)) <;> try (exfalso; omega)) | (with_reducible refine Ab.run_alt ?_ ?_) | (refine And.intro (by omega) ?_) | (refine gd_split (fun _ => ?_) (fun _ => ?_)) | (refine br_split (fun _ => ?_) (fun _ => ?_)) | (refine cl_same (hcall _) ?_) | omega)
              refine ⟨q + 1, [⟨.row 9 1, [VS w]⟩], by omega, ⟨by omega, han'⟩, ?_, ?_⟩
              · first | rfl | (simp; done) | skip
              · first | omega | (simp; omega) | skip
          · obtain rfl : q = xs.length := by omega
            rw [hal] at hall; cases hall
  | true =>
    have hO3 : okT d f xs d' f' ys d2 f2 zs = true := by rw [hR, Bool.and_eq_true] at hB; exact hB.1
    have e12 := hO3
    rw [hO, Bool.and_eq_true] at e12
    obtain ⟨e1, e2⟩ := e12
    have hall : allN xs ys zs xs.length = true := by rw [hR, Bool.and_eq_true] at hB; exact hB.2
    have hX : repX d f xs d' f' ys d2 f2 zs = map3 (fun x l h => nearB l x h) xs ys zs xs.length := by rw [repX, hB]; rfl
    have hXl := map3_len (fun x l h => nearB l x h) xs ys zs xs.length
    rw [hX, show pickI true d = d from rfl, show pickI true f = f from rfl]
    refine AC_row1x (fun i => resC d f i (map3 (fun x l h => nearB l x h) xs ys zs xs.length).length true) (rowT (map3 (fun x l h => nearB l x h) xs ys zs xs.length)) (fun _ _ => rfl) (by simp [AV.ok, okAll, refOk, csz, rowS_len]) (fun h => rowS_ok h _) (fun ρ => ren_rowS ρ _) ?_
    rw [hXl]
    refine AC_go mixed ok26 (by simp) fun hc _ => ?_
    unfold L26
    clear hX hB hO3 hR
    have l1 := Nat.le_of_eq (alike_iff.1 e1).5
    have l2 := Nat.le_of_eq (alike_iff.1 e2).5
    have l10 := (alike_iff.1 e1).1.3
    try rw [e1] at a1
    try rw [e2] at a2
    clear hO e1 e2
    have z0 : map3 (fun x l h => nearB l x h) xs ys zs 0 = [] := rfl
    repeat' (first | simp -implicitDefEqProofs only [Ab.R1, Ab.R2, Ab.R3, Ab.R4, Ab.R5, Ab.RH, Ab.RM, Ab.binV, Ab.binC, Nat.reduceLT, Nat.reduceBEq, Nat.reduceAdd, Nat.reduceMul, Nat.reduceEqDiff, Nat.reduceLeDiff, Nat.reduceSub, List.getElem?_cons_zero, List.getElem?_cons_succ, List.getElem?_nil, Option.getD_some, Option.getD_none, if_true, if_false, reduceIte, Option.map_some, Option.map_none, Option.bind_some, Option.bind_none, Option.isSome_some, List.map_cons, List.map_nil, AV.cells, List.length_cons, List.length_nil, List.all_cons, List.all_nil, AV.one, Value.oneCell', ne_eq, reduceCtorEq, Int.reduceNeg, Int.reduceEq, Int.reduceNe, Int.reduceAdd, Int.reduceSub, Int.reduceMul, Int.reduceLT, Int.reduceLE, Int.reduceToNat, List.drop_zero, List.take_zero, List.drop_succ_cons, List.take_succ_cons, List.nil_append, List.cons_append, List.append_nil, List.replicate_zero, List.flatten_nil, List.flatten_cons, List.reduceReplicate, ge_iff_le, gt_iff_lt, eq_self, Nat.add_assoc, facts, *] | simp (disch := omega) only [Ab.wrap_i64] | ((with_reducible refine Ab.gd_ndec (fun _ => ?_) (fun _ => ?_)) <;> try (exfalso; omega)) | ((with_reducible refine Ab.br_ndec (fun _ => ?_) (fun _ => ?_)) <;> try (exfalso; omega)) | ((with_reducible refine Ab.gd_dec (fun _ => ?_) (fun _ => ?_)) <;> try (exfalso; omega)) | ((with_reducible refine Ab.br_dec (fun _ => ?_) (fun _ => ?_)) <;> try (exfalso; omega)) | (with_reducible refine Ab.run_alt ?_ ?_) | (refine And.intro (by omega) ?_) | (refine gd_split (fun _ => ?_) (fun _ => ?_)) | (refine br_split (fun _ => ?_) (fun _ => ?_)) | (refine cl_same (a1 _ (hrd _) (hrd2 _)) ?_) | (refine cl_same (a2 _ (hrd _) (hrd3 _)) ?_) | omega)
    refine lw_nilcell (h.length + 4) 2 9 1 (e1 := 32) (es1 := 3) (cells := [VI d, VI f, .raw (.slice none 0 0)]) (by rw [get_new]; rfl) rfl ?_
    simp -implicitDefEqProofs only [Ab.R1, Ab.R2, Ab.R3, Ab.R4, Ab.R5, Ab.RH, Ab.RM, Ab.binV, Ab.binC, Nat.reduceLT, Nat.reduceBEq, Nat.reduceAdd, Nat.reduceMul, Nat.reduceEqDiff, Nat.reduceLeDiff, Nat.reduceSub, List.getElem?_cons_zero, List.getElem?_cons_succ, List.getElem?_nil, Option.getD_some, Option.getD_none, if_true, if_false, reduceIte, Option.map_some, Option.map_none, Option.bind_some, Option.bind_none, Option.isSome_some, List.map_cons, List.map_nil, AV.cells, List.length_cons, List.length_nil, List.all_cons, List.all_nil, AV.one, Value.oneCell', ne_eq, reduceCtorEq, Int.reduceNeg, Int.reduceEq, Int.reduceNe, Int.reduceAdd, Int.reduceSub, Int.reduceMul, Int.reduceLT, Int.reduceLE, Int.reduceToNat, List.drop_zero, List.take_zero, List.drop_succ_cons, List.take_succ_cons, List.nil_append, List.cons_append, List.append_nil, List.replicate_zero, List.flatten_nil, List.flatten_cons, List.reduceReplicate, ge_iff_le, gt_iff_lt, eq_self, Nat.add_assoc, facts]
    refine lw_loopS K26b0 (fun q : Nat => [(31, VI q)]) (fun q => h ++ [⟨.row 32 3, [VI d, VI f, .own i 1 xs.length]⟩, ⟨.row 32 3, [VI d', VI f', .own j 1 ys.length]⟩, ⟨.row 32 3, [VI d2, VI f2, .own k 1 zs.length]⟩, ⟨.row 32 3, [VI 0, VI 0, .raw (.slice none 0 0)]⟩, ⟨.row 32 3, [VI d, VI f, .own (h.length + 5) 1 q]⟩, rowT (map3 (fun x l h => nearB l x h) xs ys zs q)]) (fun q => q ≤ xs.length ∧ allN xs ys zs q = true) (fun q => xs.length - q) 0 ⟨by omega, rfl⟩ rfl (by (simp -implicitDefEqProofs only [Ab.R1, Ab.R2, Ab.R3, Ab.R4, Ab.R5, Ab.RH, Ab.RM, Ab.binV, Ab.binC, Nat.reduceLT, Nat.reduceBEq, Nat.reduceAdd, Nat.reduceMul, Nat.reduceEqDiff, Nat.reduceLeDiff, Nat.reduceSub, List.getElem?_cons_zero, List.getElem?_cons_succ, List.getElem?_nil, Option.getD_some, Option.getD_none, if_true, if_false, reduceIte, Option.map_some, Option.map_none, Option.bind_some, Option.bind_none, Option.isSome_some, List.map_cons, List.map_nil, AV.cells, List.length_cons, List.length_nil, List.all_cons, List.all_nil, AV.one, Value.oneCell', ne_eq, reduceCtorEq, Int.reduceNeg, Int.reduceEq, Int.reduceNe, Int.reduceAdd, Int.reduceSub, Int.reduceMul, Int.reduceLT, Int.reduceLE, Int.reduceToNat, List.drop_zero, List.take_zero, List.drop_succ_cons, List.take_succ_cons, List.nil_append, List.cons_append, List.append_nil, List.replicate_zero, List.flatten_nil, List.flatten_cons, List.reduceReplicate, ge_iff_le, gt_iff_lt, eq_self, Nat.add_assoc, facts] <;> first | rfl | exact ⟨rfl, rfl⟩ | exact ⟨rfl, rfl, rfl⟩ | (simp; done))) ?_ ?_
    · intro _ q hq
      have hl := map3_len (fun x l h => nearB l x h) xs ys zs q
      have hl2 := rowS_len (map3 (fun x l h => nearB l x h) xs ys zs q)
      rw [hl] at hl2
      refine .app hc ?_ ?_ ?_
      · simp only [Ab.leB_cons, Ab.leB_nil, Ab.ok_raw, Ab.ok_own, Ab.ok_ptr, Ab.ok_sub, Ab.okAll_nil, Ab.okAll_cons, Ab.refOk_app, Ab.refOk_app0, Ab.okB_zero, Ab.okB_succ, Ab.rowI_ok, Ab.rowB_ok, Ab.rowS_ok, Ab.rowU_ok, Ab.rowI_len, Ab.rowB_len, Ab.rowS_len, Ab.rowU_len, List.mem_cons, List.not_mem_nil, or_false, forall_eq, forall_eq_or_imp, List.forall_mem_cons, List.length_replicate, and_true, true_and, and_self, Nat.le_refl, Nat.zero_le, implies_true, List.length_set, List.length_append, List.length_cons, List.length_nil, List.length_map, Bool.and_true, Bool.true_and, Bool.and_self, decide_true, decide_eq_true_eq, hrk, hrk2, hrk3, rowS_ok, hl2, Nat.mul_one]
      · simp only [Ab.leB_cons, Ab.leB_nil, Ab.ok_raw, Ab.ok_own, Ab.ok_ptr, Ab.ok_sub, Ab.okAll_nil, Ab.okAll_cons, Ab.refOk_app, Ab.refOk_app0, Ab.okB_zero, Ab.okB_succ, Ab.rowI_ok, Ab.rowB_ok, Ab.rowS_ok, Ab.rowU_ok, Ab.rowI_len, Ab.rowB_len, Ab.rowS_len, Ab.rowU_len, List.mem_cons, List.not_mem_nil, or_false, forall_eq, forall_eq_or_imp, List.forall_mem_cons, List.length_replicate, and_true, true_and, and_self, Nat.le_refl, Nat.zero_le, implies_true, List.length_set, List.length_append, List.length_cons, List.length_nil, List.length_map, Bool.and_true, Bool.true_and, Bool.and_self, decide_true, decide_eq_true_eq, hl2] <;> omega
      · simp only [Ab.leB_cons, Ab.leB_nil, Ab.ok_raw, Ab.ok_own, Ab.ok_ptr, Ab.ok_sub, Ab.okAll_nil, Ab.okAll_cons, Ab.refOk_app, Ab.refOk_app0, Ab.okB_zero, Ab.okB_succ, Ab.rowI_ok, Ab.rowB_ok, Ab.rowS_ok, Ab.rowU_ok, Ab.rowI_len, Ab.rowB_len, Ab.rowS_len, Ab.rowU_len, List.mem_cons, List.not_mem_nil, or_false, forall_eq, forall_eq_or_imp, List.forall_mem_cons, List.length_replicate, and_true, true_and, and_self, Nat.le_refl, Nat.zero_le, implies_true, List.length_set, List.length_append, List.length_cons, List.length_nil, List.length_map, Bool.and_true, Bool.true_and, Bool.and_self, decide_true, decide_eq_true_eq]
    · intro q ⟨hi, hal⟩ _
      refine lw_run mixed ?_
      unfold L26b0 K26b0
      have hl := map3_len (fun x l h => nearB l x h) xs ys zs q
      have hl2 := rowS_len (map3 (fun x l h => nearB l x h) xs ys zs q)
      rw [hl] at hl2
      rcases Nat.lt_or_ge q xs.length with hlt | hge
      · obtain ⟨x, hxq⟩ := some_at hlt
        obtain ⟨y, hyq⟩ := some_at (show q < ys.length by omega)
        obtain ⟨z, hzq⟩ := some_at (show q < zs.length by omega)
        have zx := hx x (List.mem_of_getElem? hxq)
        have zy := hy y (List.mem_of_getElem? hyq)
        have zz := hz z (List.mem_of_getElem? hzq)
        have hs := map3_succ (m := (fun x l h => nearB l x h)) hxq hyq hzq
        have hcall := fun H => implNear_ok y x z zy zx zz H
        have han := allN_succ hxq hyq hzq
        rw [hal, Bool.true_and] at han
        try dsimp only at hs
        generalize nearB y x z = w at hs hcall han
        have hsn := rowS_snoc (map3 (fun x l h => nearB l x h) xs ys zs q) w
        rw [← hs] at hsn
        by_cases hw : w = ⟨#[]⟩
        · subst hw
          have hq := bEq_self ⟨#[]⟩
          rw [allN_bad (n := xs.length) (by rw [han]; rfl) (by omega)] at hall
          cases hall
        · have hq := bEq_ne hw
          have han' : allN xs ys zs (q + 1) = true := by rw [han, decide_eq_false hw]; rfl
          clear hs han a1 a2
          repeat' (first | simp -implicitDefEqProofs only [Ab.R1, Ab.R2, Ab.R3, Ab.R4, Ab.R5, Ab.RH, Ab.RM, Ab.binV, Ab.binC, Nat.reduceLT, Nat.reduceBEq, Nat.reduceAdd, Nat.reduceMul, Nat.reduceEqDiff, Nat.reduceLeDiff, Nat.reduceSub, List.getElem?_cons_zero, List.getElem?_cons_succ, List.getElem?_nil, Option.getD_some, Option.getD_none, if_true, if_false, reduceIte, Option.map_some, Option.map_none, Option.bind_some, Option.bind_none, Option.isSome_some, List.map_cons, List.map_nil, AV.cells, List.length_cons, List.length_nil, List.all_cons, List.all_nil, AV.one, Value.oneCell', ne_eq, reduceCtorEq, Int.reduceNeg, Int.reduceEq, Int.reduceNe, Int.reduceAdd, Int.reduceSub, Int.reduceMul, Int.reduceLT, Int.reduceLE, Int.reduceToNat, List.drop_zero, List.take_zero, List.drop_succ_cons, List.take_succ_cons, List.nil_append, List.cons_append, List.append_nil, List.replicate_zero, List.flatten_nil, List.flatten_cons, List.reduceReplicate, ge_iff_le, gt_iff_lt, eq_self, Nat.add_assoc, facts, *, rowS_at] | simp (disch := omega) only [Ab.wrap_i64] | ((with_reducible refine Ab.gd_ndec (fun _ => ?_) (fun _ => ?_)) <;> try (exfalso; omega)) | ((with_reducible refine Ab.br_ndec (fun _ => ?_) (fun _ => ?_)) <;> try (exfalso; omega)) | ((with_reducible refine Ab.gd_dec (fun _ => ?_) (fun _ => ?_)) <;> try (exfalso; omega)) | ((with_reducible refine Ab.br_dec (fun _ => ?_) (fun _ => ?_)) <;> try (exfalso; omega)) | (with_reducible refine Ab.run_alt ?_ ?_) | (refine And.intro (by omega) ?_) | (refine gd_split (fun _ => ?_) (fun _ => ?_)) | (refine br_split (fun _ => ?_) (fun _ => ?_)) | (refine cl_same (hcall _) ?_) | omega)
          refine ⟨q + 1, [⟨.row 9 1, [VS w]⟩], by omega, ⟨by omega, han'⟩, ?_, ?_⟩
          · first | rfl | (simp; done) | skip
          · first | omega | (simp; omega) | skip
      · obtain rfl : q = xs.length := by omega
        repeat' (first | simp -implicitDefEqProofs only [Ab.R1, Ab.R2, Ab.R3, Ab.R4, Ab.R5, Ab.RH, Ab.RM, Ab.binV, Ab.binC, Nat.reduceLT, Nat.reduceBEq, Nat.reduceAdd, Nat.reduceMul, Nat.reduceEqDiff, Nat.reduceLeDiff, Nat.reduceSub, List.getElem?_cons_zero, List.getElem?_cons_succ, List.getElem?_nil, Option.getD_some, Option.getD_none, if_true, if_false, reduceIte, Option.map_some, Option.map_none, Option.bind_some, Option.bind_none, Option.isSome_some, List.map_cons, List.map_nil, AV.cells, List.length_cons, List.length_nil, List.all_cons, List.all_nil, AV.one, Value.oneCell', ne_eq, reduceCtorEq, Int.reduceNeg, Int.reduceEq, Int.reduceNe, Int.reduceAdd, Int.reduceSub, Int.reduceMul, Int.reduceLT, Int.reduceLE, Int.reduceToNat, List.drop_zero, List.take_zero, List.drop_succ_cons, List.take_succ_cons, List.nil_append, List.cons_append, List.append_nil, List.replicate_zero, List.flatten_nil, List.flatten_cons, List.reduceReplicate, ge_iff_le, gt_iff_lt, eq_self, Nat.add_assoc, facts, *] | simp (disch := omega) only [Ab.wrap_i64] | ((with_reducible refine Ab.gd_ndec (fun _ => ?_) (fun _ => ?_)) <;> try (exfalso; omega)) | ((with_reducible refine Ab.br_ndec (fun _ => ?_) (fun _ => ?_)) <;> try (exfalso; omega)) | ((with_reducible refine Ab.gd_dec (fun _ => ?_) (fun _ => ?_)) <;> try (exfalso; omega)) | ((with_reducible refine Ab.br_dec (fun _ => ?_) (fun _ => ?_)) <;> try (exfalso; omega)) | (with_reducible refine Ab.run_alt ?_ ?_) | (refine And.intro (by omega) ?_) | (refine gd_split (fun _ => ?_) (fun _ => ?_)) | (refine br_split (fun _ => ?_) (fun _ => ?_)) | omega)
        all_goals exact ⟨_, _, rfl, rfl, rfl⟩
end Go.Proofs.Ytppjagbdpmopdaa
