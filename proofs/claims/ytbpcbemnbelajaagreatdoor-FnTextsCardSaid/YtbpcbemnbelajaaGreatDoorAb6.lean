/- The model does each operation as the abstract heap says: the whole. Plain library text, no statement. -/
import Derived.Test.YtbpcbemnbelajaaGreatDoorAb5
namespace Go.Ab
open Go Go.RowKit

section
variable {P : Program} {w0 w : World} {μ : Mu} {h : Heap} {K : AV → Heap → Prop} {s : S} {a : Act}

/-- a reference to a row's cell -/
theorem VR.ptr_get {id st off : Nat} {x : Value} (hv : VR μ h (.ptr id st off) x) (hs : sz h id = some st) : ∃ b o, (μ id).base = some (b, o) ∧ x = .pointer (some ⟨b, o + off, none⟩) := by
  cases hv with
  | ptr _ hg => exact hg hs
theorem VR.own_get {id es len : Nat} {x : Value} (hv : VR μ h (.own id es len) x) (hs : sz h id = some (len * es)) : x = .slice ((μ id).at 0) len (μ id).cap := by
  cases hv with
  | own _ hg => exact hg hs
theorem VR.sub_get {id st es lo len : Nat} {x : Value} (hv : VR μ h (.sub id st es lo len) x) (hs : sz h id = some st) :
    ∃ a c, x = .slice a len c ∧ (len = 0 ∨ (∃ b o, (μ id).base = some (b, o) ∧ a = some ⟨b, o + lo * es, none⟩)) := by
  cases hv with
  | sub _ hg => exact hg hs

theorem done_load {T : TypeId} {y : Ty} (H : HR w0 μ h w) (hy : tyOf P T = some y) {id st off : Nat} {cells : List AV} (hr : rd h id st = some cells) {x : Value} (hv : VR μ h (.ptr id st off) x)
    (hk : if y.agg then off + y.size ≤ cells.length ∧ K (.agg ((cells.drop off).take y.size)) h else match cells[off]? with | some c => K c h | none => False) {run : Result Next}
    (hrun : run = ((Instr.loadAt T x).run P w).andThen fun v w => .ok (.value v) w) : Done P w0 μ h w run K := by
  obtain ⟨_, hb, hs⟩ := rd_spec hr
  have hcl : okAll h cells = true := by
    rcases hb with hb | ⟨e, es, hb⟩
    · exact H.closed _ _ hb
    · exact H.closed _ _ hb
  obtain ⟨b, o, hbase, rfl⟩ := hv.ptr_get hs
  obtain ⟨h1, h2⟩ := loadVar_run hy H hr hbase (off := off)
  cases hagg : y.agg with
  | true =>
    simp only [hagg, if_true] at hk
    obtain ⟨x, hx, hvx⟩ := h1 hagg hk.1
    refine Done.same H (c := .agg ((cells.drop off).take y.size)) (x := x) ?_ ?_ hvx hk.2
    · rw [hrun]; simp [Instr.loadAt, Instr.sureAddr, hx]
    · simp only [AV.ok]
      rw [okAll_iff]
      intro c hc
      exact okAll_iff.1 hcl c (List.mem_of_mem_drop (List.mem_of_mem_take hc))
  | false =>
    simp only [hagg, Bool.false_eq_true, if_false] at hk
    split at hk
    · rename_i c hc
      obtain ⟨x, hx, hvx⟩ := h2 hagg c hc
      refine Done.same H (c := c) (x := x) ?_ (ok_of_mem hcl hc) hvx hk
      rw [hrun]; simp [Instr.loadAt, Instr.sureAddr, hx]
    · exact hk.elim

theorem done_store {T : TypeId} {y : Ty} (H : HR w0 μ h w) (hy : tyOf P T = some y) {id st off : Nat} {e es : Nat} {cells : List AV} (hr : wr h id st = some (e, es, cells)) {x : Value} (hv : VR μ h (.ptr id st off) x)
    {c : AV} {u : Value} (hok : c.ok h = true) (hu : VR μ h c u) (hl : c.cells.length = y.size) (h1 : c.cells.all AV.one = true) (hlen : off + y.size ≤ cells.length)
    (hk : K (.raw undef) (h.set id ⟨.row e es, cells.take off ++ c.cells ++ cells.drop (off + y.size)⟩)) {run : Result Next}
    (hrun : run = ((Instr.storeAt T x u).run P w).andThen fun _ w => .ok .skip w) : Done P w0 μ h w run K := by
  obtain ⟨hcl, hb, hs⟩ := wr_spec hr
  obtain ⟨i, d, z, hi, hd, hz, e1, e2, e3, e4, e5, e6, e7, e8⟩ := tyOf_spec hy
  obtain ⟨b, o, hbase, rfl⟩ := hv.ptr_get hs
  obtain ⟨g, n, cap, cur, hmu, _⟩ := H.row_at hb (by omega)
  have ho : o = 0 ∧ b = g := by rw [hmu] at hbase; injection hbase with hbase; injection hbase with h1 h2; exact ⟨h2.symm, h1.symm⟩
  obtain ⟨rfl, rfl⟩ := ho
  have hcr := hu.cells h1
  have hus : u.cells.size = y.size := by have := hcr.1; rw [hl] at this; simpa using this.symm
  obtain ⟨w', hw, H'⟩ := storeCells_run (P := P) c.cells u.cells.toList 0 off h w cells H hb (fun _ => hbase) (by omega) (okAll_cells hok) hcr
  have hsetE : Ext μ h μ (h.set id ⟨.row e es, cells.take off ++ c.cells ++ cells.drop (off + y.size)⟩) := Ext.set hb (by simp; omega)
  have hsetL : h.le (h.set id ⟨.row e es, cells.take off ++ c.cells ++ cells.drop (off + y.size)⟩) := Heap.le_set hb (by simp; omega)
  refine ⟨.raw undef, _, μ, w', undef, hk, .inr ⟨?_, rfl⟩, .raw _, rfl, ?_, hsetE, hsetL⟩
  · rw [hrun]
    have : ¬ (u.cells.size ≠ y.size) := by omega
    simp [Instr.storeAt, Instr.sureAddr, storeVar, sizeOf_run hi, e1, hus, hw]
  · simpa [hl] using H'

theorem vr_ptr_of {id st off : Nat} {b o : Nat} (hb : (μ id).base = some (b, o)) : VR μ h (.ptr id st off) (.pointer (some ⟨b, o + off, none⟩)) := .ptr rfl fun _ => ⟨b, o, hb, rfl⟩

theorem refOk_of_sz {id st : Nat} (hs : sz h id = some st) : refOk h id st = true := by
  obtain ⟨b, hb, hl, _⟩ := sz_some hs
  simp [refOk, csz, hb, hl]

theorem done_idx {t e : TypeId} {y : Ty} (H : HR w0 μ h w) (he : elemT P t = some e) (hy : tyOf P e = some y) {c : AV} {x : Value} (hv : VR μ h c x) {k : IntKind} {n : Int}
    (hp : idxP y.size c n fun c => (match c with | .ptr id st _ => sz h id = some st | _ => False) ∧ K c h) {run : Result Next}
    (hrun : run = ((Instr.indexAt t x (.int k n)).run P w).andThen fun v w => .ok (.value v) w) : Done P w0 μ h w run K := by
  obtain ⟨i, d, z, hi, hd, hz, e1, e2, e3, e4, e5, e6, e7, e8⟩ := tyOf_spec hy
  have hu := elemT_spec he
  have go : ∀ (bs : Addr) (len cap : Nat), 0 ≤ n → n < len → bs.spot = none → x = .slice (some bs) len cap → run = .ok (.value (.pointer (some ⟨bs.block, bs.off + n.toNat * y.size, none⟩))) w := by
    intro bs len cap h0 h1 hsp hx
    subst hx
    rw [hrun]
    have hadd : bs.add (n.toNat * y.size) = ⟨bs.block, bs.off + n.toNat * y.size, none⟩ := by
      unfold Addr.add; split
      · rename_i h0; rw [h0]; cases bs; simp at hsp; subst hsp; rfl
      · rw [← hsp]
    simp [Instr.indexAt, asIntOf, run_underlying hu, h0, h1, sizeOf_run hi, e1, hadd]
  unfold idxP at hp
  split at hp
  · rename_i id es len
    obtain ⟨rfl, h0, h1, hs, hk⟩ := hp
    have hx := hv.own_get hs
    have hpos : 0 < len * y.size := Nat.mul_pos (by omega) e5
    cases hm : (μ id).base with
    | none =>
      exfalso
      obtain ⟨bl, hbl, hll, _⟩ := sz_some hs
      cases hbk : bl with
      | mk kd cells =>
        subst hbk
        cases kd with
        | gone => simp [sz, hbl, Blk.sz] at hs
        | ro =>
          obtain ⟨b', o', x', hb', _⟩ := H.ro id cells hbl 0 _ (List.getElem?_eq_getElem (by simp at hll; omega))
          rw [hm] at hb'; cases hb'
        | row e' es' =>
          obtain ⟨g, n', cap, cur, hmu, _⟩ := H.row_at hbl (by simp at hll; omega)
          rw [hmu] at hm; cases hm
    | some p =>
      have hr := go ⟨p.1, p.2 + 0, none⟩ len (μ id).cap h0 h1 rfl (by rw [hx]; simp [Loc.at, hm])
      refine Done.same H hr ?_ (vr_ptr_of hm) hk
      simp only [AV.ok]; exact refOk_of_sz hs
  · rename_i id st es lo len
    obtain ⟨rfl, h0, h1, hs, hk⟩ := hp
    obtain ⟨a, c, hx, hor⟩ := hv.sub_get hs
    rcases hor with hor | ⟨b, o, hb, rfl⟩
    · omega
    · have hr := go ⟨b, o + lo * y.size, none⟩ len c h0 h1 rfl hx
      refine Done.same H hr ?_ (by rw [Nat.add_assoc]; exact vr_ptr_of hb) hk
      simp only [AV.ok]; exact refOk_of_sz hs
  · exact hp.elim

theorem getD_toList (b : ByteArray) (n : Nat) (hn : n < b.size) : b[n]? = some (b.data.toList.getD n 0) := by
  have hl : n < b.data.toList.length := by simpa using hn
  have : b.data.toList.getD n 0 = b.data.toList[n] := by simp [List.getD, List.getElem?_eq_getElem hl]
  rw [this]
  have : b[n]? = some b[n] := by rw [getElem?_pos b n hn]
  rw [this]
  simp [ByteArray.getElem_eq_getElem_data]

/-- what lies in a made row -/
theorem madeCells_eq (z : List Value) (n : Nat) : (madeCells z.toArray (n * z.length)).toList = (List.replicate n z).flatten := by
  induction n with
  | zero => simp [madeCells]
  | succ n ih =>
    have hz : ∀ (i : Nat) (hi : i < z.length), z.toArray[(n * z.length + i) % z.toArray.size]! = z[i] := by
      intro i hi
      have : (n * z.length + i) % z.length = i := by
        rw [Nat.add_comm, Nat.add_mul_mod_self_right, Nat.mod_eq_of_lt hi]
      simp [this, hi]
    rw [List.replicate_succ', List.flatten_append, ← ih]
    simp only [madeCells, Array.toList_map, Array.toList_range, List.flatten_cons, List.flatten_nil, List.append_nil]
    rw [Nat.succ_mul, List.range_eq_range', List.range_eq_range', List.range'_append_1.symm, List.map_append]
    simp only [Nat.zero_add]
    congr 1
    apply List.ext_getElem
    · simp
    · intro i h1 h2
      simp only [List.getElem_map, List.getElem_range', Nat.one_mul]
      exact hz i (by simpa using h1)

theorem flatten_map {α β : Type} (f : α → β) (n : Nat) (z : List α) : (List.replicate n (z.map f)).flatten = ((List.replicate n z).flatten).map f := by
  rw [List.map_flatten, List.map_replicate]

theorem done_make {t e : TypeId} {y : Ty} (H : HR w0 μ h w) (he : elemT P t = some e) (hy : tyOf P e = some y) {k k' : IntKind} {n : Int} (h0 : 0 ≤ n) (hn : n ≤ 281474976710656) (hb : n * y.bytes ≤ 281474976710656)
    (hk : K (.own h.length y.size n.toNat) (h ++ [⟨.row e y.size, (List.replicate n.toNat (y.zero.map AV.raw)).flatten⟩])) {run : Result Next}
    (hrun : run = ((Instr.makeSlice t (.int k n) (.int k' n)).run P w).andThen fun v w => .ok (.value v) w) : Done P w0 μ h w run K := by
  obtain ⟨i, d, z, hi, hd, hz, e1, e2, e3, e4, e5, e6, e7, e8⟩ := tyOf_spec hy
  have hr := run_make (P := P) w t e i z (elemT_spec he) hi hz k k' n n h0 (Int.le_refl _) (by rw [e4, Int.mul_comm]; exact hb) (by omega)
  have hz' : z.cells = y.zero.toArray := toArray_eq e3
  have hmade : (madeCells z.cells (n.toNat * i.size)).toList = (List.replicate n.toNat y.zero).flatten := by
    rw [hz', e1, ← e6, madeCells_eq]
  have hmem : ∀ v ∈ (List.replicate n.toNat y.zero).flatten, v.oneCell' = true := by
    intro v hv
    simp only [List.mem_flatten, List.mem_replicate] at hv
    obtain ⟨l, ⟨_, rfl⟩, hv⟩ := hv
    exact e7 v hv
  have hlen : ((List.replicate n.toNat (y.zero.map AV.raw)).flatten).length = n.toNat * y.size := by simp [List.length_flatten, e6]
  refine Done.alloc H e y.size n.toNat _ (madeCells z.cells (n.toNat * i.size)) (.slice (some ⟨w.heap.size, 0, none⟩) n.toNat n.toNat) _ (by simp only [maxLen]; omega) e5 hlen ?_ ?_ ?_ ?_ (vr_own_new e y.size _ _) hk
  · rw [flatten_map]; exact okAll_raw _
  · rw [hmade, flatten_map]; exact crs_raw hmem
  · rw [hrun, hr]; rfl
  · simp [AV.ok, refOk, csz_new, hlen]

end
end Go.Ab
