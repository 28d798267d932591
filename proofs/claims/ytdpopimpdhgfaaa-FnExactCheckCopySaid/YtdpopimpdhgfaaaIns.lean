/- slices.BinarySearch and slices.Insert of a slice of ints, from the guide's contracts. -/
import Derived.Test.YtdpopimpdhgfaaaDel
import Derived.Shelf.Slices.SearchI
import Derived.Shelf.Slices.Empties
import Derived.Shelf.Spec.SlicesInsert
import Derived.Shelf.Spec.SlicesInsertGrow
namespace Go.Proofs.Ytdpopimpdhgfaaa
set_option maxRecDepth 20000
set_option linter.unusedSimpArgs false
set_option linter.unusedVariables false
open Go Go.Ab Go.Shelf Go.Sort Go.RowKit

def bsRen : Go.Shelf.Ren := ⟨fun | 25 => 77 | 31 => 85 | 32 => 91 | 37 => 99 | n => n, fun | 0 => 0 | 3 => 3 | 4 => 4 | 22 => 22 | 40 => 78 | n => n, fun  | n => n⟩
theorem bsLay : Lays2.n25 Try.prog bsRen where
  mixed := by kernel_rfl
  f25 := Try.func77.trans (congrArg some (by kernel_rfl))
  f31 := Try.func85.trans (congrArg some (by kernel_rfl))
  f32 := Try.func91.trans (congrArg some (by kernel_rfl))
  f37 := Try.func99.trans (congrArg some (by kernel_rfl))
  t0 := Try.underlying0
  a0 := Try.isAgg0
  z0 := Try.sizeOf0
  v0 := Try.zeroValue0
  t3 := Try.underlying3
  a3 := Try.isAgg3
  z3 := Try.sizeOf3
  v3 := Try.zeroValue3
  t4 := Try.underlying4
  a4 := Try.isAgg4
  z4 := Try.sizeOf4
  v4 := Try.zeroValue4
  t22 := Try.underlying22
  a22 := Try.isAgg22
  z22 := Try.sizeOf22
  v22 := Try.zeroValue22
  t40 := Try.underlying78
  a40 := Try.isAgg78
  z40 := Try.sizeOf78
  v40 := Try.zeroValue78
def inRen : Go.Shelf.Ren := ⟨fun | 21 => 78 | 27 => 92 | 28 => 93 | 35 => 100 | 39 => 102 | n => n, fun | 0 => 0 | 3 => 3 | 4 => 4 | 22 => 22 | n => n, fun  | n => n⟩
theorem inLay : Lays2.n21 Try.prog inRen where
  mixed := by kernel_rfl
  f21 := Try.func78.trans (congrArg some (by kernel_rfl))
  f27 := Try.func92.trans (congrArg some (by kernel_rfl))
  f28 := Try.func93.trans (congrArg some (by kernel_rfl))
  f35 := Try.func100.trans (congrArg some (by kernel_rfl))
  f39 := Try.func102.trans (congrArg some (by kernel_rfl))
  t0 := Try.underlying0
  a0 := Try.isAgg0
  z0 := Try.sizeOf0
  v0 := Try.zeroValue0
  t3 := Try.underlying3
  a3 := Try.isAgg3
  z3 := Try.sizeOf3
  v3 := Try.zeroValue3
  t4 := Try.underlying4
  a4 := Try.isAgg4
  z4 := Try.sizeOf4
  v4 := Try.zeroValue4
  t22 := Try.underlying22
  a22 := Try.isAgg22
  z22 := Try.sizeOf22
  v22 := Try.zeroValue22
  i3 := by kernel_rfl

def lay (cur : Array Value) : Nat → List Value → Array Value
  | _, [] => cur
  | o, v :: r => lay (cur.setIfInBounds o v) (o + 1) r
theorem lay_list : ∀ (vs : List Value) (o : Nat) (cur : Array Value), o + vs.length ≤ cur.size → (lay cur o vs).toList = cur.toList.take o ++ vs ++ cur.toList.drop (o + vs.length)
  | [], o, cur, _ => by simp [lay]
  | v :: r, o, cur, h => by
    simp only [List.length_cons] at h
    rw [lay, lay_list r (o + 1) _ (by simp; omega), Array.toList_setIfInBounds, set_snoc (by simp; omega), List.drop_set_of_lt (by omega)]
    simp only [List.length_cons, List.append_assoc, List.cons_append, List.nil_append]
    rw [show o + 1 + r.length = o + (r.length + 1) by omega]
theorem lay_size : ∀ (vs : List Value) (o : Nat) (cur : Array Value), (lay cur o vs).size = cur.size
  | [], _, _ => rfl
  | v :: r, o, cur => by rw [lay, lay_size r, Array.size_setIfInBounds]
theorem heap_setCells (g : Nat) (e : TypeId) (f : Nat × Nat) : ∀ (vs : List Value) (o : Nat) (w : World) (cur : Array Value), w.heap[g]? = some (.cells cur e f) → (w.setCells g o vs).heap[g]? = some (.cells (lay cur o vs) e f)
  | [], _, _, _, h => h
  | v :: r, o, w, cur, h => heap_setCells g e f r (o + 1) _ _ (setCell_heap w g o v cur e f h)
theorem grown_same {w w1 w2 : World} {row : Option Nat} (h : w.grownBy w1 row) (k : w1.grownBy w2 row) : w.grownBy w2 row :=
  ⟨k.os.trans h.os, k.tape.trans h.tape, k.output.trans h.output, Nat.le_trans h.size k.size, fun i hi hne => (k.block i (Nat.lt_of_lt_of_le hi h.size) hne).trans (h.block i hi hne)⟩
theorem grown_new {w w1 w2 : World} {row : Option Nat} (h : w.grownBy w1 row) (k : w1.grownBy w2 (some w.heap.size)) : w.grownBy w2 row :=
  ⟨k.os.trans h.os, k.tape.trans h.tape, k.output.trans h.output, Nat.le_trans h.size k.size, fun i hi hne => (k.block i (Nat.lt_of_lt_of_le hi h.size) (fun e => by injection e with e; omega)).trans (h.block i hi hne)⟩
theorem grown_drew (w : World) (row : Option Nat) : w.grownBy w.drew row := ⟨rfl, rfl, rfl, Nat.le_refl _, fun _ _ _ => rfl⟩
theorem grown_setCells (g : Nat) : ∀ (vs : List Value) (o : Nat) (w : World), w.grownBy (w.setCells g o vs) (some g)
  | [], _, w => ⟨rfl, rfl, rfl, Nat.le_refl _, fun _ _ _ => rfl⟩
  | v :: r, o, w => grown_same (w1 := w.setCell ⟨g, o, none⟩ v) ⟨rfl, rfl, rfl, by simp, fun k _ hk => Below.heap_setCell _ _ _ _ (fun e => hk (by simp [e]))⟩ (grown_setCells g r (o + 1) _)

theorem lay_shift {xs : List Value} {cur : Array Value} {n k : Nat} (u : Value) (hx : cur.toList.take n = xs) (hl : xs.length = n) (hc : n + 1 ≤ cur.size) (hk : k ≤ n) :
    (lay (lay cur (k + 1) (xs.drop k)) k [u]).toList.take (n + 1) = xs.take k ++ [u] ++ xs.drop k := by
  have hcl : cur.toList.length = cur.size := by simp
  have h1 := lay_list (xs.drop k) (k + 1) cur (by simp; omega)
  have h2 := lay_list [u] k (lay cur (k + 1) (xs.drop k)) (by rw [lay_size]; simp; omega)
  have e1 : (lay cur (k + 1) (xs.drop k)).toList.take k = xs.take k := by
    rw [h1, List.append_assoc, List.take_append_of_le_length (by simp; omega), List.take_take, Nat.min_eq_left (by omega), ← hx, List.take_take, Nat.min_eq_left hk]
  have e2 : (lay cur (k + 1) (xs.drop k)).toList.drop (k + [u].length) = xs.drop k ++ cur.toList.drop (k + 1 + (xs.drop k).length) := by
    rw [h1, List.append_assoc, List.drop_left' (by simp; omega)]
  rw [h2, e1, e2, ← List.append_assoc, List.take_left' (by simp; omega)]
theorem lay_grow {xs : List Value} {cur : Array Value} {n k : Nat} (u : Value) (hx : cur.toList.take k = xs.take k) (hl : xs.length = n) (hc : n + 1 ≤ cur.size) (hk : k ≤ n) :
    (lay (lay cur k [u]) (k + 1) (xs.drop k)).toList.take (n + 1) = xs.take k ++ [u] ++ xs.drop k := by
  have hcl : cur.toList.length = cur.size := by simp
  have h1 := lay_list [u] k cur (by simp; omega)
  have h2 := lay_list (xs.drop k) (k + 1) (lay cur k [u]) (by rw [lay_size]; simp; omega)
  have e1 : (lay cur k [u]).toList.take (k + 1) = xs.take k ++ [u] := by
    rw [h1, hx, List.take_left' (by simp; omega)]
  rw [h2, e1, List.take_left' (by simp; omega)]
theorem lay_end {xs : List Value} {cur : Array Value} {n : Nat} (u : Value) (hx : cur.toList.take n = xs) (hl : xs.length = n) (hc : n + 1 ≤ cur.size) :
    (lay cur n [u]).toList.take (n + 1) = xs.take n ++ [u] ++ xs.drop n := by
  have h1 := lay_list [u] n cur (by simp; omega)
  have e1 : xs.take n = xs := List.take_of_length_le (by omega)
  have e2 : xs.drop n = [] := List.drop_of_length_le (by omega)
  rw [h1, hx, e1, e2, List.append_nil, List.take_left' (by simp; omega)]

theorem insert_world {w : World} {base : Nat} {v : Value} {n k : Nat} {xs : List Value} (ho : w.ownsRow base 3 1 v n xs) (hbase : base ≤ w.heap.size) (hk : k ≤ n) (hn : n ≤ 1048576) (h1 : ∀ u ∈ xs, u.oneCell' = true)
    {g2 vc : Nat} {e2 : TypeId} {cur2 : Array Value} {u : Value} (hg2 : w.heap[g2]? = some (.cells cur2 e2 (0, 0))) (hu : cur2[0]? = some u) (hu1 : u.oneCell' = true) (hne : v.ownBlock ≠ some g2) :
    Calls Try.prog 78 #[v, .int .i64 k, .slice (some ⟨g2, 0, none⟩) 1 vc] w fun e w' => ∃ v', e = .returned v' ∧ w'.ownsRow base 3 1 v' (n + 1) (xs.take k ++ [u] ++ xs.drop k) ∧ w.grownBy w' v.ownBlock ∧ (v'.ownBlock = v.ownBlock ∨ ∀ b, v'.ownBlock = some b → w.heap.size ≤ b) := by
  have hl : xs.length = n := by rw [ho.1, Nat.mul_one]
  have hll : (xs.take k ++ [u] ++ xs.drop k).length = (n + 1) * 1 := by simp; omega
  have hvs : ∀ (j : Nat) (v : Value), [u][j]? = some v → w.cell? ⟨g2, 0 + j, none⟩ = some v := fun j v hj => by
    match j, hj with
    | 0, hj => simp at hj; subst hj; simp [World.cell?, hg2, hu]
    | j + 1, hj => simp at hj
  have h1v : ∀ v ∈ [u], v.oneCell' = true := fun v hv => by simp at hv; subst hv; exact hu1
  have fresh : ∀ (W : World) (cur : Array Value) (cap : Nat), W.heap[w.heap.size]? = some (.cells cur 3 (0, 0)) → cur.size = cap → n + 1 ≤ cap → cap ≤ maxLen → cur.toList.take (n + 1) = xs.take k ++ [u] ++ xs.drop k →
      W.ownsRow base 3 1 (.slice (some ⟨w.heap.size, 0, none⟩) (n + 1) cap) (n + 1) (xs.take k ++ [u] ++ xs.drop k) := fun W cur cap hh hs h2 h3 ht =>
    ⟨hll, .inr ⟨w.heap.size, cap, cur, rfl, hbase, hh, h2, h3, by omega, by rw [Nat.mul_one]; exact ht⟩⟩
  have isnew : ∀ (n c : Nat), ∀ b, (Value.slice (some ⟨w.heap.size, 0, none⟩) n c).ownBlock = some b → w.heap.size ≤ b := fun n c b hb => by simp [Value.ownBlock] at hb; omega
  have hmaxn : n + 1 ≤ maxLen := by unfold maxLen; omega
  rcases ho.2 with ⟨rfl, rfl⟩ | ⟨g, cap, cur, rfl, hbg, hg, hnc, hcm, hcs, htake⟩
  · obtain rfl : k = 0 := by omega
    obtain rfl : xs = [] := List.eq_nil_of_length_eq_zero hl
    refine (Any2.slices_Insert_int_end_grow inLay none 0 0 g2 0 1 vc [] [u] w (by omega) (by omega) (by omega) (by omega) rfl rfl (fun _ => rfl) (fun a ha => by cases ha) hvs h1v).mono fun e w' ⟨he, hw⟩ => ?_
    rw [show inRen.t 3 = 3 from rfl] at he hw
    have hge := grownCap_ge w (0 + 1) 0 3
    have hgm := grownCap_le_maxLen w (0 + 1) 0 3 hmaxn
    generalize hq : grownCap w (0 + 1) 0 3 = q at *
    refine ⟨_, he, fresh _ _ _ (by rw [hw]; exact Go.heap_alloc_new w.drew _) ?_ hge hgm ?_, ?_, .inr (isnew _ _)⟩
    · have : (Value.int .i64 0).cells.size = 1 := rfl
      simp [size_zeroCells]; simp only [this]; omega
    · simp
    · rw [hw]; exact grown_same (grown_drew w _) (World.grownBy_alloc _ _ _)
  · rw [Nat.mul_one] at hcs htake
    have hcells : ∀ (j : Nat) (v : Value), xs[j]? = some v → w.cell? ⟨g, 0 + j, none⟩ = some v := fun j v hj => by
      have := ho.cells (g := g) rfl j v hj
      rwa [Addr.add_lit] at this
    have hsp : ∀ j, j < cap → (w.cell? ⟨g, j, none⟩).isSome = true := fun j hj => by
      simp [World.cell?, hg, Array.getElem?_eq_getElem (show j < cur.size by omega)]
    have hfz : ∀ j, w.frozen? ⟨g, j, none⟩ = false := fun j => by simp [World.frozen?, hg]
    have hne' : g2 ≠ g := fun e => hne (by rw [e]; rfl)
    have rooms : ∀ (W : World) (cur' : Array Value), W.heap[g]? = some (.cells cur' 3 (0, 0)) → cur'.size = cap → n + 1 ≤ cap → cur'.toList.take (n + 1) = xs.take k ++ [u] ++ xs.drop k →
        W.ownsRow base 3 1 (.slice (some ⟨g, 0, none⟩) (n + 1) cap) (n + 1) (xs.take k ++ [u] ++ xs.drop k) := fun W cur' hh hs h2 ht =>
      ⟨hll, .inr ⟨g, cap, cur', rfl, hbg, hh, h2, hcm, by omega, by rw [Nat.mul_one]; exact ht⟩⟩
    rcases Nat.lt_or_ge k n with hlt | hge
    · rcases Nat.lt_or_ge cap (n + 1) with hno | hroom
      · refine (Any2.slices_Insert_int_grow inLay g 0 n cap k g2 0 1 vc xs [u] w hlt (by omega) hnc hno (by omega) hl rfl hcells hvs h1 h1v).mono fun e w' ⟨he, hw⟩ => ?_
        rw [show inRen.t 3 = 3 from rfl] at he hw
        have hgc := grownCap_ge w (n + 1) cap 3
        have hgm := grownCap_le_maxLen w (n + 1) cap 3 hmaxn
        generalize hq : grownCap w (n + 1) cap 3 = q at *
        have hw0 := Go.heap_alloc_new w (.cells ((xs.take k).toArray ++ Builtin.zeroCells (Value.int .i64 0).cells (n + 1 - k) ++ Builtin.zeroCells (Value.int .i64 0).cells (q - (n + 1))) 3)
        generalize hC : (xs.take k).toArray ++ Builtin.zeroCells (Value.int .i64 0).cells (n + 1 - k) ++ Builtin.zeroCells (Value.int .i64 0).cells (q - (n + 1)) = C at *
        have hCs : C.size = q := by
          have : (Value.int .i64 0).cells.size = 1 := rfl
          rw [← hC]; simp [size_zeroCells]; simp only [this]; omega
        have hCt : C.toList.take k = xs.take k := by
          rw [← hC]; simp only [Array.toList_append, List.append_assoc]
          exact List.take_left' (by simp; omega)
        have e1 := heap_setCells w.heap.size 3 (0, 0) [u] k (w.alloc (.cells C 3)).drew C hw0
        have e2 := heap_setCells w.heap.size 3 (0, 0) (xs.drop k) (k + 1) ((w.alloc (.cells C 3)).drew.setCells w.heap.size k [u]).drew _ e1
        refine ⟨_, he, fresh _ _ _ (by rw [hw]; exact e2) (by rw [lay_size, lay_size, hCs]) hgc hgm (lay_grow u hCt hl (by omega) hk), ?_, .inr (isnew _ _)⟩
        rw [hw]
        refine grown_new (World.grownBy_alloc w _ _) (grown_same (grown_drew _ _) (grown_same (grown_setCells _ _ _ _) (grown_same (grown_drew _ _) (grown_setCells _ _ _ _))))
      · refine (Any2.slices_Insert_int_shift inLay g 0 n cap k g2 0 1 vc xs [u] w hlt (by omega) hroom (by unfold maxLen at hcm; omega) hne' hl rfl hcells (fun j hj => hsp _ (by omega)) (fun j hj => hfz _) hvs h1 h1v e2 3 cur2.size cur.size (by simp [World.shape?, hg2]) (by simp [World.shape?, hg]) (by omega) (by simp [World.frozen?, hg2]) (by simp [World.frozen?, hg2])).mono fun e w' ⟨he, hw⟩ => ?_
        rw [Nat.zero_add, Nat.zero_add] at hw
        have e1 := heap_setCells g 3 (0, 0) (xs.drop k) (k + 1) w.drew cur hg
        have e2 := heap_setCells g 3 (0, 0) [u] k _ _ e1
        refine ⟨_, he, rooms _ _ (by rw [hw]; exact e2) (by rw [lay_size, lay_size]; omega) hroom (lay_shift u htake hl (by omega) hk), ?_, .inl rfl⟩
        rw [hw]
        exact grown_same (grown_drew _ _) (grown_same (grown_setCells _ _ _ _) (grown_setCells _ _ _ _))
    · obtain rfl : k = n := by omega
      rcases Nat.lt_or_ge cap (k + 1) with hno | hroom
      · refine (Any2.slices_Insert_int_end_grow inLay (some ⟨g, 0, none⟩) k cap g2 0 1 vc xs [u] w (by omega) hnc hno (by omega) hl rfl (fun h => by cases h) (fun a ha j v hj => by injection ha with ha; subst ha; rw [Addr.add_lit]; exact hcells j v hj) hvs h1v).mono fun e w' ⟨he, hw⟩ => ?_
        rw [show inRen.t 3 = 3 from rfl] at he hw
        have hge := grownCap_ge w (k + 1) cap 3
        have hgm := grownCap_le_maxLen w (k + 1) cap 3 hmaxn
        generalize hq : grownCap w (k + 1) cap 3 = q at *
        refine ⟨_, he, fresh _ _ _ (by rw [hw]; exact Go.heap_alloc_new w.drew _) ?_ hge hgm ?_, ?_, .inr (isnew _ _)⟩
        · have : (Value.int .i64 0).cells.size = 1 := rfl
          simp [size_zeroCells]; simp only [this]; omega
        · rw [List.take_of_length_le (by omega : xs.length ≤ k), List.drop_of_length_le (by omega), List.append_nil]
          simp only [Array.toList_append]
          exact List.take_left' (by simp; omega)
        · rw [hw]; exact grown_same (grown_drew w _) (World.grownBy_alloc _ _ _)
      · refine (Any2.slices_Insert_int_end_room inLay g 0 k cap g2 0 1 vc [u] w (by omega) hroom (by unfold maxLen at hcm; omega) rfl (fun j hj => hsp _ (by omega)) (fun j hj => hfz _) hvs h1v).mono fun e w' ⟨he, hw⟩ => ?_
        rw [Nat.zero_add] at hw
        refine ⟨_, he, rooms _ _ (by rw [hw]; exact heap_setCells g 3 (0, 0) [u] k w cur hg) (by rw [lay_size]; omega) hroom (lay_end u htake hl (by omega)), ?_, .inl rfl⟩
        rw [hw]
        exact grown_setCells _ _ _ _

def insI (xs : List Int) (k : Nat) (x : Int) : List Int := xs.take k ++ [x] ++ xs.drop k
theorem insI_len {xs : List Int} {k : Nat} (x : Int) (h : k ≤ xs.length) : (insI xs k x).length = xs.length + 1 := by simp [insI]; omega
theorem insert_ok (xs : List Int) (x : Int) (k id vb : Nat) (hk : k ≤ xs.length) (hn : xs.length ≤ 1048576) (hne : id ≠ vb) (h : Heap) (hb : h[id]? = some (rowW xs)) (hv : h[vb]? = some (rowW [x])) :
    AC Try.prog 78 [.own id 1 xs.length, VI (k : Int), .own vb 1 1] h fun c h' => c = .own id 1 (xs.length + 1) ∧ h' = List.set h id (rowW (insI xs k x)) := by
  intro w0 μ w vs H hvs hk'
  obtain ⟨a, b, c, rfl⟩ : ∃ x y z, vs = #[x, y, z] := by
    have hl := hvs.1
    simp at hl
    obtain ⟨l⟩ := vs
    match l, hl with
    | [x, y, z], _ => exact ⟨x, y, z, rfl⟩
  have ha := hvs.2 0 _ a rfl rfl
  have hb' := raw_val (hvs.2 1 _ b rfl rfl)
  have hc := hvs.2 2 _ c rfl rfl
  subst hb'
  have hsz : sz h id = some (xs.length * 1) := by rw [sz_row hb, rowI_len, Nat.mul_one]
  have hsv : sz h vb = some 1 := by rw [sz_row hv, rowI_len]; rfl
  have hae := ha.own_get hsz
  obtain ⟨n, vals, ho, hcr⟩ := H.row id _ _ _ hb
  have hvals := vals_ints hcr
  obtain rfl : n = xs.length := by have := ho.1; rw [hvals] at this; simp at this; omega
  obtain ⟨g2, n2, cap2, cur2, hmu2, hg2, hh2, hnc2, hcm2, hcs2, hlen2, hcc2⟩ := H.row_at hv (by simp [rowI])
  have hn2 : n2 = 1 := by simp [rowI] at hlen2; omega
  subst hn2
  have hv2 := vals_ints hcc2
  have hu : cur2[0]? = some (.int .i64 x) := by
    have : (cur2.toList.take (1 * 1))[0]? = some (.int .i64 x) := by rw [hv2]; rfl
    rw [List.getElem?_take_of_lt (by omega)] at this
    simpa using this
  obtain ⟨c1, hce⟩ : ∃ a, c = .slice (some ⟨g2, 0, none⟩) 1 a := by
    have := hc.own_get (by rw [hsv])
    rw [hmu2] at this
    exact ⟨_, this⟩
  subst hce
  unfold CallOK
  rw [entered_of Try.func78 (by decide) (by kernel_rfl)]
  refine ⟨rfl, ?_⟩
  rw [hae]
  have h1 : ∀ u ∈ vals, u.oneCell' = true := fun u hu => by rw [hvals] at hu; obtain ⟨y, _, rfl⟩ := List.mem_map.1 hu; rfl
  have hap : (Value.slice ((μ id).at 0) xs.length (μ id).cap).ownBlock ≠ some g2 := fun e => by
    cases hmi : (μ id).base with
    | none => simp [Loc.at, hmi, Value.ownBlock] at e
    | some p =>
      simp [Loc.at, hmi, Value.ownBlock] at e
      exact H.apart id vb _ _ _ _ _ _ hne hb hv p.1 p.2 g2 0 (by simp [hmi]) (by rw [hmu2]) e
  refine (insert_world ho H.below.size hk hn h1 hh2 hu rfl hap).mono fun e w' ⟨v', he, ho', hg, hnew⟩ => ?_
  have hX : vals.take k ++ [Value.int .i64 x] ++ vals.drop k = (insI xs k x).map (Value.int .i64) := by rw [hvals]; simp [insI, List.map_take, List.map_drop]
  rw [hX] at ho'
  obtain ⟨H2, E2⟩ := H.grown (cells' := rowI (insI xs k x)) hb rfl ho' hg hnew (rowI_ok h _) (crs_ints _) (by rw [rowI_len, rowI_len, insI_len x hk]; omega)
  have hlo := locOf_owned ho'
  refine ⟨v', he, _, _, _, ⟨rfl, rfl⟩, ?_, ?_, H2, E2, Heap.le_set hb (by rw [rowI_len, rowI_len, insI_len x hk]; omega)⟩
  · refine .own (by rw [hlo]; rfl) fun _ => ?_
    have : Mu.put μ id (locOf v') id = locOf v' := by simp [Mu.put]
    rw [this]; exact hlo
  · simp [AV.ok, refOk, csz, List.getElem?_set_self (lt_len hb), rowI_len, insI_len x hk]

theorem search_ok (xs : List Int) (x : Int) (id : Nat) (hn : xs.length ≤ 4194304) (hs : xs.Pairwise (· ≤ ·)) (h : Heap) (hr : rd h id xs.length = some (rowI xs)) :
    AC Try.prog 77 [.own id 1 xs.length, VI x] h fun r h' => r = .tup [VI ((xs.countP fun y => decide (y < x) : Nat) : Int), VB (xs.contains x)] ∧ h' = h := by
  intro w0 μ w vs H hvs hk'
  obtain ⟨a, b, rfl⟩ : ∃ x y, vs = #[x, y] := by
    have hl := hvs.1
    simp at hl
    obtain ⟨l⟩ := vs
    match l, hl with
    | [x, y], _ => exact ⟨x, y, rfl⟩
  have ha := hvs.2 0 _ a rfl rfl
  have hb' := raw_val (hvs.2 1 _ b rfl rfl)
  subst hb'
  have hae := ha.own_get (by rw [Nat.mul_one]; exact sz_of hr)
  unfold CallOK
  rw [entered_of Try.func77 (by decide) (by kernel_rfl)]
  refine ⟨rfl, ?_⟩
  have hvr : ∀ (a : Nat) (b : Bool), VR μ h (.tup [VI (a : Int), VB b]) (.tuple #[.int .i64 a, .bool b]) := fun a b => by
    refine .tup rfl fun i c x hi hx => ?_
    match i, hi, hx with
    | 0, hi, hx => simp at hi hx; subst hi; subst hx; exact .raw _
    | 1, hi, hx => simp at hi hx; subst hi; subst hx; exact .raw _
  have done : ∀ (w' : World), Below w.heap.size w w' → HR w0 μ h w' := fun w' hb => H.world hb
  rcases Nat.eq_zero_or_pos xs.length with h0 | hpos
  · have hnil : xs = [] := List.length_eq_zero_iff.1 h0
    subst hnil
    rw [hae]
    refine (Go.Proofs.Any.slices_BinarySearch_int_empty bsLay _ _ x w).mono fun e w' ⟨he, hw⟩ => ?_
    subst hw
    exact ⟨_, he, μ, _, _, ⟨rfl, rfl⟩, hvr 0 false, rfl, H, Ext.refl _ _, Heap.le_refl _⟩
  · obtain ⟨vals, hcr, hor⟩ := H.row_read hr
    have hvals := vals_ints hcr
    rcases hor with hor | ⟨b, o, hbo, hce⟩
    · have := rowI_len xs; rw [hor] at this; simp at this; omega
    · have : a = .slice (some ⟨b, o, none⟩) xs.length (μ id).cap := by rw [hae]; simp [Loc.at, hbo]
      rw [this]
      refine (Go.Proofs.Any.slices_BinarySearch_int bsLay b o xs.length _ xs x w (Nat.le_refl _) (by omega) (fun j hj => ?_) (by rw [List.take_length]; exact hs)).mono fun e w' ⟨he, q, hw⟩ => ?_
      · refine hce j _ ?_
        rw [hvals]; simp [List.getD, hj]
      · subst hw
        rw [List.take_length] at he
        exact ⟨_, he, μ, _, _, ⟨rfl, rfl⟩, hvr _ _, rfl, done _ ⟨rfl, rfl, rfl, Nat.le_refl _, fun _ _ => rfl⟩, Ext.refl _ _, Heap.le_refl _⟩
end Go.Proofs.Ytdpopimpdhgfaaa
