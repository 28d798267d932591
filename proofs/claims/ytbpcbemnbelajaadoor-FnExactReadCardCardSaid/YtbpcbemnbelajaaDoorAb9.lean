/- All operations together. Plain library text, no statement. -/
import Derived.Test.YtbpcbemnbelajaaDoorAb8
import Derived.Laws.BytesString
namespace Go.Ab
open Go Go.RowKit

section
variable {P : Program} {w0 w : World} {μ : Mu} {h : Heap} {K : AV → Heap → Prop} {s : S} {a : Act}

theorem src_len {size m : Nat} {c : AV} {news : List AV} (hs : srcOf h size c = some (m, news)) : news.length = m * size := by
  unfold srcOf at hs
  split at hs
  · split at hs
    · rename_i he
      split at hs
      · rename_i cells hr
        injection hs with hs; injection hs with h1 h2
        subst h1; subst h2; subst he
        exact (rd_spec hr).1
      · cases hs
    · cases hs
  · split at hs
    · rename_i he
      split at hs
      · rename_i cells hr
        injection hs with hs; injection hs with h1 h2
        subst h1; subst h2
        obtain ⟨rfl, hle⟩ := he
        have := (rd_spec hr).1
        rw [Nat.add_mul] at hle
        simp only [List.length_take, List.length_drop]
        omega
      · cases hs
    · cases hs
  · injection hs with hs; injection hs with h1 h2
    subst h1; subst h2; simp
  · cases hs

theorem raw_val {v x : Value} (hv : VR μ h (.raw v) x) : x = v := by cases hv; rfl

theorem getElem?_pos' (b : ByteArray) (n : Nat) (hn : n < b.size) : (if (0 : Int) ≤ (n : Int) then b[n]? else none) = some (b.data.toList.getD n 0) := by
  rw [if_pos (by omega)]; exact getD_toList b n hn

theorem done_len {t : TypeId} (H : HR w0 μ h w) {c : AV} {x : Value} (hv : VR μ h c x) {n : Nat} (hn : ∃ a cap, x = .slice a n cap) (he : (elemT P t).isSome = true) (hk : K (.raw (.int .i64 n)) h) {ty : TypeId} {run : Result Next}
    (hrun : run = ((Builtin.len_ #[t] ty #[x]).run P w).andThen fun v w => .ok (.value v) w) : Done P w0 μ h w run K := by
  obtain ⟨ad, cap, rfl⟩ := hn
  obtain ⟨e, he⟩ := Option.isSome_iff_exists.1 he
  refine Done.same H (c := .raw (.int .i64 n)) (x := .int .i64 n) ?_ rfl (.raw _) hk
  rw [hrun]
  simp [Builtin.len_, run_underlying (elemT_spec he), goInt]

theorem bytes_crs : ∀ {news : List AV} {bs : List UInt8} {xs : List Value}, bytesA news = some bs → CRs μ h news xs → ∃ ns : List Int, xs = ns.map (Value.int .u8) ∧ bs = ns.map fun n => UInt8.ofNat n.toNat := by
  intro news
  induction news with
  | nil =>
    intro bs xs hb hc
    have : xs = [] := List.eq_nil_of_length_eq_zero hc.1.symm
    simp [bytesA] at hb
    exact ⟨[], by simpa using this, by simpa using hb.symm⟩
  | cons c news ih =>
    intro bs xs hb hc
    cases xs with
    | nil => have := hc.1; simp at this
    | cons x xs =>
      unfold bytesA at hb
      split at hb
      · rename_i heq; cases heq
      · rename_i n l heq
        injection heq with e1 e2
        subst e1; subst e2
        split at hb
        · rename_i bs' hbs
          injection hb with hb; subst hb
          have h0 := (hc.2 0 _ x rfl rfl).1
          obtain ⟨ns, h1, h2⟩ := ih hbs ⟨by have := hc.1; simpa using this, fun i d y hd hy => hc.2 (i + 1) d y (by simpa using hd) (by simpa using hy)⟩
          exact ⟨n :: ns, by rw [raw_val h0, h1]; rfl, by rw [h2]; rfl⟩
        · cases hb
      · cases hb

theorem foldl_push : ∀ (ns : List Int) (b : ByteArray), ns.foldl (fun r n => r.push (UInt8.ofNat n.toNat)) b = ⟨(b.data.toList ++ ns.map fun n => UInt8.ofNat n.toNat).toArray⟩ := by
  intro ns
  induction ns with
  | nil => intro b; simp
  | cons n ns ih =>
    intro b
    rw [List.foldl_cons, ih]
    simp [ByteArray.push]

theorem done_str (H : HR w0 μ h w) {src dst : TypeId} {c : AV} {x : Value} (hv : VR μ h c x) (hp : strP P src dst h K (srcOf h 1 c)) {run : Result Next}
    (hrun : run = ((convert src dst x).run P w).andThen fun v w => .ok (.value v) w) : Done P w0 μ h w run K := by
  unfold strP at hp
  split at hp
  · rename_i m news hsrc
    split at hp
    · rename_i bs hbs
      obtain ⟨hu, hd, hk⟩ := hp
      have hl := src_len hsrc
      obtain ⟨sr, cp, xs, rfl, hcr, hok, hor⟩ := src_spec H hv hsrc hl (by decide)
      obtain ⟨ns, rfl, rfl⟩ := bytes_crs hbs hcr
      unfold isU8s at hu
      split at hu
      · rename_i e he
        split at hu
        · rename_i hu8
          refine Done.same H (c := .raw (.string ⟨(ns.map fun n => UInt8.ofNat n.toNat).toArray⟩)) (x := .string ⟨(ns.map fun n => UInt8.ofNat n.toNat).toArray⟩) ?_ rfl (.raw _) hk
          rw [hrun, run_convert_bytes_string w src dst e sr m cp (elemT_spec he) hu8 (isStr_spec hd)]
          have hlen : ns.length = m := by have := hcr.1; rw [hl] at this; simpa using this.symm
          cases sr with
          | none =>
            have : m = 0 := by
              rcases hor with h0 | ⟨ad, hc, _⟩
              · exact h0
              · cases hc
            have : ns = [] := List.eq_nil_of_length_eq_zero (by omega)
            subst this
            simp [Conv.bytesToString, ByteArray.empty, ByteArray.emptyWithCapacity]
            rfl
          | some a =>
            rw [run_bytesToString w a m cp ns ?_]
            · rw [foldl_push]
              simp
            · by_cases hm : m = 0
              · subst hm
                have : ns = [] := List.eq_nil_of_length_eq_zero hlen
                subst this
                simp [loadCells, loadCellsFrom]
              · obtain ⟨ad, hade, hcell⟩ := hor.resolve_left hm
                injection hade with hade; subst hade
                rw [run_loadCells w a m (fun j => (ns.map (Value.int .u8)).getD j undef) (fun j hj => by
                  have hj' : j < (ns.map (Value.int .u8)).length := by simp; omega
                  have := hcell j _ (List.getElem?_eq_getElem hj')
                  rw [this]
                  simp only [List.getD, List.getElem?_eq_getElem hj', Option.getD_some])]
                congr 1
                apply Array.ext'
                apply List.ext_getElem
                · simp [hlen]
                · intro i h1 h2
                  simp at h1 h2
                  simp [List.getD, h2]
        · cases hu
      · cases hu
    · exact hp.elim
  · exact hp.elim

theorem bnd_run {n : Nat} {lo hi : Option Operand} {R : Nat → Nat → Prop} (hs : SR μ h s a.tmps) (hp : bndP n (lo.map (ev s)) (hi.map (ev s)) R) (cap : Nat) (hc : n ≤ cap) :
    ∃ l u, R l u ∧ l ≤ u ∧ u ≤ n ∧ (Instr.sliceBounds true n cap (lo.map a.eval) (hi.map a.eval) none).run P w = .ok (l, u, cap) w := by
  have hlo : ∀ {o : Operand} {k : IntKind} {n : Int}, ev s o = .raw (.int k n) → a.eval o = .int k n := fun {o k n} ho => by
    have := (hs.ev o).2
    rw [ho] at this; exact raw_val this
  cases lo with
  | none =>
    cases hi with
    | none =>
      simp only [Option.map_none, bndP] at hp
      exact ⟨0, n, hp, by omega, by omega, by simp [Instr.sliceBounds]⟩
    | some uo =>
      simp only [Option.map_none, Option.map_some] at hp
      cases hu : ev s uo <;> rw [hu] at hp <;> first | (simp only [bndP] at hp; done) | skip
      rename_i v
      cases v <;> first | (simp only [bndP] at hp; done) | skip
      rename_i k u
      obtain ⟨h0, h1, hr⟩ := hp
      have : (u.toNat : Int) = u := Int.toNat_of_nonneg h0
      exact ⟨0, u.toNat, hr, by omega, by omega, by simp [hlo hu, Instr.sliceBounds, Instr.sliceBound, asIntOf, h0, show u ≤ (cap : Int) by omega]⟩
  | some lo' =>
    cases hi with
    | none =>
      simp only [Option.map_none, Option.map_some] at hp
      cases hl : ev s lo' <;> rw [hl] at hp <;> first | (simp only [bndP] at hp; done) | skip
      rename_i v
      cases v <;> first | (simp only [bndP] at hp; done) | skip
      rename_i k l
      obtain ⟨h0, h1, hr⟩ := hp
      exact ⟨l.toNat, n, hr, by omega, by omega, by simp [hlo hl, Instr.sliceBounds, Instr.sliceBound, asIntOf, h0, h1]⟩
    | some uo =>
      simp only [Option.map_some] at hp
      cases hl : ev s lo' <;> rw [hl] at hp <;> first | (simp only [bndP] at hp; done) | skip
      rename_i v
      cases v <;> first | (simp only [bndP] at hp; done) | skip
      rename_i k l
      cases hu : ev s uo <;> rw [hu] at hp <;> first | (simp only [bndP] at hp; done) | skip
      rename_i v
      cases v <;> first | (simp only [bndP] at hp; done) | skip
      rename_i k' u
      obtain ⟨h0, h1, h2, hr⟩ := hp
      have hu0 : 0 ≤ u := by omega
      have : (u.toNat : Int) = u := Int.toNat_of_nonneg hu0
      exact ⟨l.toNat, u.toNat, hr, by omega, by omega, by simp [hlo hl, hlo hu, Instr.sliceBounds, Instr.sliceBound, asIntOf, h0, h1, hu0, this, show u ≤ (cap : Int) by omega]⟩

/-- **Every operation of the abstract heap is done by the model.** -/
theorem opP_sound (H : HR w0 μ h w) (hs : SR μ h s a.tmps) (o : Oper) (hp : opP P s h o.op K) : Done P w0 μ h w ((execOp a.eval o).run P w) K := by
  obtain ⟨dst, op, type, pos, after, guard⟩ := o
  cases op <;> simp only [opP] at hp <;> try exact hp.elim
  case move x => exact Done.same H (by simp [execOp]) (hs.ev x).1 (hs.ev x).2 hp
  case assign x => exact Done.same H (by simp [execOp]) (hs.ev x).1 (hs.ev x).2 hp
  case pick c x y =>
    split at hp
    · rename_i t hc
      have hcv := (hs.ev c).2
      rw [hc] at hcv
      have hce := raw_val hcv
      cases t with
      | true => exact Done.same H (by simp [execOp, hce, asBool]) (hs.ev x).1 (hs.ev x).2 (by simpa using hp)
      | false => exact Done.same H (by simp [execOp, hce, asBool]) (hs.ev y).1 (hs.ev y).2 (by simpa using hp)
    · exact hp.elim
  case alloc T =>
    split at hp
    · rename_i y hy
      exact done_alloc H hy hp (by simp [execOp])
    · exact hp.elim
  case box T x =>
    split at hp
    · rename_i y hy
      exact done_box H hy (hs.ev x).1 (hs.ev x).2 hp.1 hp.2.1 hp.2.2 (by simp [execOp])
    · exact hp.elim
  case build t ps =>
    obtain ⟨hfl, hp⟩ := hp
    split at hp
    · rename_i y hy
      obtain ⟨hone, hp⟩ := hp
      split at hp
      · rename_i cells hf
        refine done_build H hs hfl hy hone hf hp (run := _) ?_
        simp only [execOp, Sem.run_bind]
        congr 3
        apply Array.ext'
        simp
      · exact hp.elim
    · exact hp.elim
  case buildSlice t len ps =>
    split at hp
    · rename_i e he
      split at hp
      · rename_i y hy
        obtain ⟨hl, hone, hp⟩ := hp
        split at hp
        · rename_i cells hf
          refine done_buildSlice H hs he hy hl hone hf hp (run := _) ?_
          simp only [execOp, Sem.run_bind]
          congr 3
          apply Array.ext'
          simp
        · exact hp.elim
      · exact hp.elim
    · exact hp.elim
  case load T x =>
    split at hp
    · rename_i id st off y hx hy
      split at hp
      · rename_i cells hr
        have hv := (hs.ev x).2
        rw [hx] at hv
        exact done_load H hy hr hv hp (by simp [execOp])
      · exact hp.elim
    · exact hp.elim
  case store T x v =>
    split at hp
    · rename_i id st off y hx hy
      split at hp
      · rename_i e es cells hr
        have hv := (hs.ev x).2
        rw [hx] at hv
        exact done_store H hy hr hv (hs.ev v).1 (hs.ev v).2 hp.1 hp.2.1 hp.2.2.1 hp.2.2.2 (by simp [execOp])
      · exact hp.elim
    · exact hp.elim
  case nilCheck x =>
    have hv := (hs.ev x).2
    have hok := (hs.ev x).1
    split at hp
    · rename_i id st off hx
      rw [hx] at hv hok
      obtain ⟨b, o, _, hxe⟩ := hv.ptr_get hp.2.1
      exact Done.same H (by simp [execOp, hxe]) hok (hxe ▸ hv) hp.2.2
    · rename_i f cs hx
      rw [hx] at hv hok
      cases hv' : a.eval x <;> rw [hv'] at hv <;> cases hv
      rename_i xs h1 h2
      exact Done.same H (c := .fn (.func f) cs) (x := .func (.func f) #[] xs) (by simp [execOp, hv']) hok (.fn h1 h2) hp
    · exact hp.elim
  case binOp op t x y ty =>
    obtain ⟨v, hk, hr⟩ := run_binP (w := w) hp (hs.ev x).2 (hs.ev y).2 x y
    exact Done.same H (c := .raw v) (x := v) (by simp only [execOp, Sem.run_bind] at hr ⊢; rw [hr]; rfl) rfl (.raw _) hk
  case unOp op t x =>
    have hv := (hs.ev x).2
    split at hp
    · rename_i b hx
      rw [hx] at hv
      exact Done.same H (c := .raw (.bool (!b))) (x := .bool (!b)) (by simp [execOp, Op.unary, raw_val hv]) rfl (.raw _) hp
    · rename_i k n hx
      rw [hx] at hv
      exact Done.same H (c := .raw (.int k (k.wrap (0 - n)))) (x := .int k (k.wrap (0 - n))) (by simp [execOp, Op.unary, Op.intArith, raw_val hv]) rfl (.raw _) hp
    · exact hp.elim
  case convert src dst' x =>
    have hv := (hs.ev x).2
    split at hp
    · rename_i k0 n hx
      rw [hx] at hv
      split at hp
      · rename_i k1 k hsrc hdst
        refine Done.same H (c := .raw (.int k (k.wrap n))) (x := .int k (k.wrap n)) ?_ rfl (.raw _) hp
        simp [execOp, convert, run_underlying (intK_spec hsrc), run_underlying (intK_spec hdst), Conv.intToInt, raw_val hv]
      · exact hp.elim
    · rename_i hx
      rw [hx] at hv
      exact done_str H hv hp (by simp [execOp])
    · rename_i hx
      rw [hx] at hv
      exact done_str H hv hp (by simp [execOp])
    · exact hp.elim
  case makeFunc fn first captured =>
    obtain ⟨rfl, hk⟩ := hp
    refine Done.same H (c := .fn fn (captured.toList.map (ev s))) (x := .func fn #[] (captured.map a.eval)) (by simp [execOp, Instr.makeFunc]) ?_ (.fn (by simp) fun i c x hi hx => ?_) hk
    · simp only [AV.ok, okAll_iff]
      intro c hc
      simp at hc
      obtain ⟨x, _, rfl⟩ := hc
      exact (hs.ev x).1
    · simp at hi hx
      obtain ⟨o, ho, rfl⟩ := hi
      obtain ⟨o', ho', rfl⟩ := hx
      rw [ho] at ho'; injection ho' with ho'; subst ho'
      exact (hs.ev o).2
  case makeSlice t l c =>
    have hl := (hs.ev l).2
    have hc := (hs.ev c).2
    split at hp
    · rename_i k n k' m e hel hec he
      split at hp
      · rename_i y hy
        obtain ⟨rfl, h0, h1, h2, hk⟩ := hp
        rw [hel] at hl
        rw [hec] at hc
        exact done_make H he hy (k := k) (k' := k') h0 h1 h2 hk (by simp [execOp, raw_val hl, raw_val hc])
      · exact hp.elim
    · exact hp.elim
  case slice t x lo hi mx =>
    obtain ⟨rfl, hp⟩ := hp
    have hv := (hs.ev x).2
    have hlo : ∀ {o : Operand} {k : IntKind} {n : Int}, ev s o = .raw (.int k n) → a.eval o = .int k n := fun {o k n} ho => by
      have := (hs.ev o).2
      rw [ho] at this; exact raw_val this
    split at hp
    · rename_i b hx
      rw [hx] at hv
      have hxe := raw_val hv
      obtain ⟨hstr, hp⟩ := hp
      have hu := isStr_spec hstr
      cases lo with
      | none =>
        cases hi with
        | none =>
          simp only [Option.map_none] at hp
          refine Done.same H (c := .raw (.string (b.extract 0 b.size))) (x := .string (b.extract 0 b.size)) ?_ rfl (.raw _) hp
          simp [execOp, hxe, Instr.sliceAt, run_underlying hu, Instr.slice, Instr.sliceBounds]
        | some u =>
          simp only [Option.map_none, Option.map_some] at hp
          split at hp <;> try exact hp.elim
          all_goals rename_i heq1 heq2
          all_goals first | (cases heq1; done) | (cases heq2; done) | skip
          rename_i k n
          injection heq2 with heq2
          refine Done.same H (c := .raw (.string (b.extract 0 n.toNat))) (x := .string (b.extract 0 n.toNat)) ?_ rfl (.raw _) hp.2.2
          simp [execOp, hxe, hlo heq2, Instr.sliceAt, run_underlying hu, Instr.slice, Instr.sliceBounds, Instr.sliceBound, asIntOf, hp.1, hp.2.1]
      | some l =>
        cases hi with
        | none =>
          simp only [Option.map_none, Option.map_some] at hp
          split at hp <;> try exact hp.elim
          all_goals rename_i heq1 heq2
          all_goals first | (cases heq1; done) | (cases heq2; done) | skip
          rename_i k n
          injection heq1 with heq1
          refine Done.same H (c := .raw (.string (b.extract n.toNat b.size))) (x := .string (b.extract n.toNat b.size)) ?_ rfl (.raw _) hp.2.2
          simp [execOp, hxe, hlo heq1, Instr.sliceAt, run_underlying hu, Instr.slice, Instr.sliceBounds, Instr.sliceBound, asIntOf, hp.1, hp.2.1]
        | some u =>
          simp only [Option.map_some] at hp
          split at hp <;> try exact hp.elim
          all_goals rename_i heq1 heq2
          all_goals first | (cases heq1; done) | (cases heq2; done) | skip
          rename_i k n k' m
          injection heq1 with heq1
          injection heq2 with heq2
          obtain ⟨h0, h1, h2, hk⟩ := hp
          refine Done.same H (c := .raw (.string (b.extract n.toNat m.toNat))) (x := .string (b.extract n.toNat m.toNat)) ?_ rfl (.raw _) hk
          have hm0 : 0 ≤ m := by omega
          have hmt : (m.toNat : Int) = m := Int.toNat_of_nonneg hm0
          simp [execOp, hxe, hlo heq1, hlo heq2, Instr.sliceAt, run_underlying hu, Instr.slice, Instr.sliceBounds, Instr.sliceBound, asIntOf, h0, h1, h2, hm0, hmt]
    · rename_i id es len hx
      rw [hx] at hv
      split at hp <;> try exact hp.elim
      rename_i e he
      split at hp <;> try exact hp.elim
      rename_i y hy
      obtain ⟨rfl, hw, hp⟩ := hp
      obtain ⟨⟨e', es', cells⟩, hw, hes⟩ := Option.map_eq_some_iff.1 hw
      simp only at hes
      subst hes
      obtain ⟨hcl, hb, hsz⟩ := wr_spec hw
      obtain ⟨i, d, z, hi', hd, hz, e1, e2, e3, e4, e5, e6, e7, e8⟩ := tyOf_spec hy
      have hxe := hv.own_get hsz
      have hu := elemT_spec he
      obtain ⟨n', ys, hown, hcys⟩ := H.row id e' y.size cells hb
      have hn : n' = len := by
        have h1 := hown.1
        rw [← hcys.1, hcl] at h1
        exact (Nat.eq_of_mul_eq_mul_right e5 h1).symm
      subst hn
      have hcap : n' ≤ (μ id).cap := by
        rcases hown.2 with ⟨hn, h0⟩ | ⟨g, cap, cur, hve, _, _, hnc, _⟩
        · omega
        · have : (μ id).cap = cap := by injection hve
          omega
      obtain ⟨l, u, hr, hlu, hun, hrun⟩ := bnd_run (P := P) (w := w) hs hp (μ id).cap hcap
      refine Done.same H (c := .sub id (n' * y.size) y.size l (u - l)) (x := .slice (if (μ id).cap = l then (μ id).at 0 else ((μ id).at 0).map (·.add (l * y.size))) (u - l) ((μ id).cap - l)) ?_ ?_ (.sub rfl fun _ => ⟨_, _, rfl, ?_⟩) hr
      · simp [execOp, hxe, Instr.sliceAt, run_underlying hu, Instr.slice, hrun, sizeOf_run hi', e1]
      · simp only [AV.ok]; exact refOk_of_sz hsz
      · by_cases h0 : u - l = 0
        · exact .inl h0
        · right
          rw [if_neg (by omega)]
          have hpos : 0 < cells.length := by rw [hcl]; exact Nat.mul_pos (by omega) e5
          obtain ⟨g, n'', cap, cur, hmu, _⟩ := H.row_at hb hpos
          exact ⟨g, 0, by rw [hmu], by simp [hmu, Loc.at, addr_add]⟩
    · exact hp.elim
  case fieldAddr t x f =>
    have hv := (hs.ev x).2
    have hok := (hs.ev x).1
    split at hp
    · rename_i id st off o n hx hf
      rw [hx] at hv hok
      obtain ⟨fs, fl, i, hu, hfs, hi, h1, h2, h3⟩ := fldOf_spec hf
      obtain ⟨b, bo, hb, hxe⟩ := hv.ptr_get hp.1
      refine Done.same H (c := .ptr id st (off + o)) (x := .pointer (some ⟨b, bo + (off + o), none⟩)) ?_ (by simpa only [AV.ok] using hok) (vr_ptr_of hb) hp.2
      have hne : ¬ (i.size = 0) := by omega
      simp [execOp, Instr.fieldAt, run_underlying hu, hfs, hxe, Instr.sureAddr, fieldPlace, sizeOf_run hi, hne, h2, addr_add, Nat.add_assoc]
    · exact hp.elim
  case indexAddr t x i =>
    split at hp
    · rename_i e he
      split at hp
      · rename_i y k n hy hi
        have hiv := (hs.ev i).2
        rw [hi] at hiv
        have hie := raw_val hiv
        refine done_idx H he hy (hs.ev x).2 (k := k) hp ?_
        simp [execOp, hie]
      · exact hp.elim
    · exact hp.elim
  case index t x i =>
    split at hp
    · rename_i b k n hx hi
      obtain ⟨hstr, h0, h1, hk⟩ := hp
      have hiv := (hs.ev i).2
      rw [hi] at hiv
      have hxv := (hs.ev x).2
      rw [hx] at hxv
      obtain ⟨m, rfl⟩ := Int.eq_ofNat_of_zero_le h0
      have hm : m < b.size := by omega
      refine Done.same H (c := .raw (.int .u8 (b.data.toList.getD m 0).toNat)) (x := .int .u8 (b.data.toList.getD m 0).toNat) ?_ rfl (.raw _) (by simpa using hk)
      have := getD_toList b m hm
      simp [execOp, raw_val hiv, raw_val hxv, Instr.index, asIntOf, run_underlying (isStr_spec hstr), this]
    · exact hp.elim
  case extract x i =>
    split at hp
    · rename_i cs hx
      split at hp
      · rename_i c hc
        have hxv := (hs.ev x).2
        have hxo := (hs.ev x).1
        rw [hx] at hxv hxo
        cases hxe : a.eval x <;> rw [hxe] at hxv <;> cases hxv
        rename_i xs h1 h2
        have hi : i < xs.size := by have := lt_len hc; omega
        refine Done.same H (c := c) (x := xs[i]) ?_ (ok_of_mem (by simpa only [AV.ok] using hxo) hc) (h2 i c _ hc (Array.getElem?_eq_getElem hi)) hp
        simp [execOp, hxe, Instr.extract, hi]
      · exact hp.elim
    · exact hp.elim
  case call c =>
    obtain ⟨callee, args, argTypes⟩ := c
    simp only at hp
    have hargs : ∀ l, args.toList = l → args = l.toArray := fun l hl => by subst hl; simp
    have htys : ∀ l, argTypes.toList = l → argTypes = l.toArray := fun l hl => by subst hl; simp
    split at hp <;> try exact hp.elim
    · split at hp <;> try exact hp.elim
      rename_i x t hx ht
      have e1 := hargs _ hx
      have e2 := htys _ ht
      subst e1; subst e2
      have hv := (hs.ev x).2
      split at hp <;> try exact hp.elim
      · rename_i b hxb
        rw [hxb] at hv
        refine Done.same H (c := .raw (.int .i64 b.size)) (x := .int .i64 b.size) ?_ rfl (.raw _) hp.2
        simp [execOp, resolve, invoke, builtin, raw_val hv, Builtin.len_, run_underlying (isStr_spec hp.1), goInt]
      · rename_i id es len hxb
        rw [hxb] at hv
        exact done_len H hv ⟨_, _, hv.own_get hp.2.1⟩ hp.1 hp.2.2 (t := t) (ty := type) (by simp [execOp, resolve, invoke, builtin])
      · rename_i id st es lo len hxb
        rw [hxb] at hv
        obtain ⟨ad, cp, hxe, _⟩ := hv.sub_get hp.2.1
        exact done_len H hv ⟨_, _, hxe⟩ hp.1 hp.2.2 (t := t) (ty := type) (by simp [execOp, resolve, invoke, builtin])
      · rename_i hxb
        rw [hxb] at hv
        exact done_len H hv ⟨_, _, raw_val hv⟩ hp.1 (n := 0) (by simpa using hp.2) (t := t) (ty := type) (by simp [execOp, resolve, invoke, builtin])
    · split at hp <;> try exact hp.elim
      rename_i x y t t' hx ht
      have e1 := hargs _ hx
      have e2 := htys _ ht
      subst e1; subst e2
      obtain ⟨rfl, hp⟩ := hp
      split at hp <;> try exact hp.elim
      rename_i e he
      split at hp <;> try exact hp.elim
      rename_i ty hty
      split at hp <;> try exact hp.elim
      rename_i m news hsrc
      exact done_append H he hty (hs.ev x).2 (hs.ev x).1 (hs.ev y).2 hsrc (src_len hsrc) hp (ty := type) (by simp [execOp, resolve, invoke, builtin])
    · split at hp <;> try exact hp.elim
      rename_i x y hx
      have e1 := hargs _ hx
      subst e1
      split at hp <;> try exact hp.elim
      rename_i k p k' q hxe hye
      have hv1 := (hs.ev x).2
      have hv2 := (hs.ev y).2
      rw [hxe] at hv1
      rw [hye] at hv2
      refine Done.same H (c := .raw (.int k (if q < p then q else p))) (x := .int k (if q < p then q else p)) ?_ rfl (.raw _) hp
      simp [execOp, resolve, invoke, builtin, Builtin.min_, Builtin.min2, raw_val hv1, raw_val hv2]
    · split at hp <;> try exact hp.elim
      rename_i x y hx
      have e1 := hargs _ hx
      subst e1
      split at hp <;> try exact hp.elim
      rename_i k p k' q hxe hye
      have hv1 := (hs.ev x).2
      have hv2 := (hs.ev y).2
      rw [hxe] at hv1
      rw [hye] at hv2
      refine Done.same H (c := .raw (.int k (if q > p then q else p))) (x := .int k (if q > p then q else p)) ?_ rfl (.raw _) hp
      simp [execOp, resolve, invoke, builtin, Builtin.max_, Builtin.max2, raw_val hv1, raw_val hv2]

end
end Go.Ab
