/- All operations together. Plain library text, no statement. -/
import Derived.Test.YtdnbhknejalibaaAb8
namespace Go.Ab
open Go Go.RowKit

section
variable {P : Program} {w0 w : World} {μ : Mu} {h : Heap} {K : AV → Heap → Prop} {s : S} {a : Act}

theorem src_len {size m : Nat} {c : AV} {news : List AV} (hs : srcOf h size c = some (m, news)) : news.length = m * size := by
  unfold srcOf at hs
  split at hs
  · split at hs
    · rename_i he
      split at hs
      · rename_i cells hr
        injection hs with hs; injection hs with h1 h2
        subst h1; subst h2; subst he
        exact (rd_spec hr).1
      · cases hs
    · cases hs
  · split at hs
    · rename_i he
      split at hs
      · rename_i cells hr
        injection hs with hs; injection hs with h1 h2
        subst h1; subst h2
        obtain ⟨rfl, hle⟩ := he
        have := (rd_spec hr).1
        rw [Nat.add_mul] at hle
        simp only [List.length_take, List.length_drop]
        omega
      · cases hs
    · cases hs
  · injection hs with hs; injection hs with h1 h2
    subst h1; subst h2; simp
  · cases hs

theorem raw_val {v x : Value} (hv : VR μ h (.raw v) x) : x = v := by cases hv; rfl

theorem getElem?_pos' (b : ByteArray) (n : Nat) (hn : n < b.size) : (if (0 : Int) ≤ (n : Int) then b[n]? else none) = some (b.data.toList.getD n 0) := by
  rw [if_pos (by omega)]; exact getD_toList b n hn

theorem done_len {t : TypeId} (H : HR w0 μ h w) {c : AV} {x : Value} (hv : VR μ h c x) {n : Nat} (hn : ∃ a cap, x = .slice a n cap) (he : (elemT P t).isSome = true) (hk : K (.raw (.int .i64 n)) h) {ty : TypeId} {run : Result Next}
    (hrun : run = ((Builtin.len_ #[t] ty #[x]).run P w).andThen fun v w => .ok (.value v) w) : Done P w0 μ h w run K := by
  obtain ⟨ad, cap, rfl⟩ := hn
  obtain ⟨e, he⟩ := Option.isSome_iff_exists.1 he
  refine Done.same H (c := .raw (.int .i64 n)) (x := .int .i64 n) ?_ rfl (.raw _) hk
  rw [hrun]
  simp [Builtin.len_, run_underlying (elemT_spec he), goInt]

/-- **Every operation of the abstract heap is done by the model.** -/
theorem opP_sound (H : HR w0 μ h w) (hs : SR μ h s a.tmps) (o : Oper) (hp : opP P s h o.op K) : Done P w0 μ h w ((execOp a.eval o).run P w) K := by
  obtain ⟨dst, op, type, pos, after, guard⟩ := o
  cases op <;> simp only [opP] at hp <;> try exact hp.elim
  case move x => exact Done.same H (by simp [execOp]) (hs.ev x).1 (hs.ev x).2 hp
  case assign x => exact Done.same H (by simp [execOp]) (hs.ev x).1 (hs.ev x).2 hp
  case pick c x y =>
    split at hp
    · rename_i t hc
      have hcv := (hs.ev c).2
      rw [hc] at hcv
      have hce := raw_val hcv
      cases t with
      | true => exact Done.same H (by simp [execOp, hce, asBool]) (hs.ev x).1 (hs.ev x).2 (by simpa using hp)
      | false => exact Done.same H (by simp [execOp, hce, asBool]) (hs.ev y).1 (hs.ev y).2 (by simpa using hp)
    · exact hp.elim
  case alloc T =>
    split at hp
    · rename_i y hy
      exact done_alloc H hy hp (by simp [execOp])
    · exact hp.elim
  case box T x =>
    split at hp
    · rename_i y hy
      exact done_box H hy (hs.ev x).1 (hs.ev x).2 hp.1 hp.2.1 hp.2.2 (by simp [execOp])
    · exact hp.elim
  case build t ps =>
    obtain ⟨hfl, hp⟩ := hp
    split at hp
    · rename_i y hy
      obtain ⟨hone, hp⟩ := hp
      split at hp
      · rename_i cells hf
        refine done_build H hs hfl hy hone hf hp (run := _) ?_
        simp only [execOp, Sem.run_bind]
        congr 3
        apply Array.ext'
        simp
      · exact hp.elim
    · exact hp.elim
  case buildSlice t len ps =>
    split at hp
    · rename_i e he
      split at hp
      · rename_i y hy
        obtain ⟨hl, hone, hp⟩ := hp
        split at hp
        · rename_i cells hf
          refine done_buildSlice H hs he hy hl hone hf hp (run := _) ?_
          simp only [execOp, Sem.run_bind]
          congr 3
          apply Array.ext'
          simp
        · exact hp.elim
      · exact hp.elim
    · exact hp.elim
  case load T x =>
    split at hp
    · rename_i id st off y hx hy
      split at hp
      · rename_i cells hr
        have hv := (hs.ev x).2
        rw [hx] at hv
        exact done_load H hy hr hv hp (by simp [execOp])
      · exact hp.elim
    · exact hp.elim
  case store T x v =>
    split at hp
    · rename_i id st off y hx hy
      split at hp
      · rename_i e es cells hr
        have hv := (hs.ev x).2
        rw [hx] at hv
        exact done_store H hy hr hv (hs.ev v).1 (hs.ev v).2 hp.1 hp.2.1 hp.2.2.1 hp.2.2.2 (by simp [execOp])
      · exact hp.elim
    · exact hp.elim
  case nilCheck x =>
    have hv := (hs.ev x).2
    have hok := (hs.ev x).1
    split at hp
    · rename_i id st off hx
      rw [hx] at hv hok
      obtain ⟨b, o, _, hxe⟩ := hv.ptr_get hp.2.1
      exact Done.same H (by simp [execOp, hxe]) hok (hxe ▸ hv) hp.2.2
    · rename_i f cs hx
      rw [hx] at hv hok
      cases hv' : a.eval x <;> rw [hv'] at hv <;> cases hv
      rename_i xs h1 h2
      exact Done.same H (c := .fn (.func f) cs) (x := .func (.func f) #[] xs) (by simp [execOp, hv']) hok (.fn h1 h2) hp
    · exact hp.elim
  case binOp op t x y ty =>
    obtain ⟨v, hk, hr⟩ := run_binP (w := w) hp (hs.ev x).2 (hs.ev y).2 x y
    exact Done.same H (c := .raw v) (x := v) (by simp only [execOp, Sem.run_bind] at hr ⊢; rw [hr]; rfl) rfl (.raw _) hk
  case unOp op t x =>
    have hv := (hs.ev x).2
    split at hp
    · rename_i b hx
      rw [hx] at hv
      exact Done.same H (c := .raw (.bool (!b))) (x := .bool (!b)) (by simp [execOp, Op.unary, raw_val hv]) rfl (.raw _) hp
    · rename_i k n hx
      rw [hx] at hv
      exact Done.same H (c := .raw (.int k (k.wrap (0 - n)))) (x := .int k (k.wrap (0 - n))) (by simp [execOp, Op.unary, Op.intArith, raw_val hv]) rfl (.raw _) hp
    · exact hp.elim
  case convert src dst' x =>
    have hv := (hs.ev x).2
    split at hp
    · rename_i k0 n hx
      rw [hx] at hv
      split at hp
      · rename_i k1 k hsrc hdst
        refine Done.same H (c := .raw (.int k (k.wrap n))) (x := .int k (k.wrap n)) ?_ rfl (.raw _) hp
        simp [execOp, convert, run_underlying (intK_spec hsrc), run_underlying (intK_spec hdst), Conv.intToInt, raw_val hv]
      · exact hp.elim
    · exact hp.elim
  case makeFunc fn first captured =>
    obtain ⟨rfl, hk⟩ := hp
    refine Done.same H (c := .fn fn (captured.toList.map (ev s))) (x := .func fn #[] (captured.map a.eval)) (by simp [execOp, Instr.makeFunc]) ?_ (.fn (by simp) fun i c x hi hx => ?_) hk
    · simp only [AV.ok, okAll_iff]
      intro c hc
      simp at hc
      obtain ⟨x, _, rfl⟩ := hc
      exact (hs.ev x).1
    · simp at hi hx
      obtain ⟨o, ho, rfl⟩ := hi
      obtain ⟨o', ho', rfl⟩ := hx
      rw [ho] at ho'; injection ho' with ho'; subst ho'
      exact (hs.ev o).2
  case makeSlice t l c =>
    have hl := (hs.ev l).2
    have hc := (hs.ev c).2
    split at hp
    · rename_i k n k' m e hel hec he
      split at hp
      · rename_i y hy
        obtain ⟨rfl, h0, h1, h2, hk⟩ := hp
        rw [hel] at hl
        rw [hec] at hc
        exact done_make H he hy (k := k) (k' := k') h0 h1 h2 hk (by simp [execOp, raw_val hl, raw_val hc])
      · exact hp.elim
    · exact hp.elim
  case slice t x lo hi mx =>
    obtain ⟨rfl, hp⟩ := hp
    have hv := (hs.ev x).2
    have hlo : ∀ {o : Operand} {k : IntKind} {n : Int}, ev s o = .raw (.int k n) → a.eval o = .int k n := fun {o k n} ho => by
      have := (hs.ev o).2
      rw [ho] at this; exact raw_val this
    split at hp
    · rename_i b hx
      rw [hx] at hv
      have hxe := raw_val hv
      obtain ⟨hstr, hp⟩ := hp
      have hu := isStr_spec hstr
      cases lo with
      | none =>
        cases hi with
        | none =>
          simp only [Option.map_none] at hp
          refine Done.same H (c := .raw (.string (b.extract 0 b.size))) (x := .string (b.extract 0 b.size)) ?_ rfl (.raw _) hp
          simp [execOp, hxe, Instr.sliceAt, run_underlying hu, Instr.slice, Instr.sliceBounds]
        | some u =>
          simp only [Option.map_none, Option.map_some] at hp
          split at hp <;> try exact hp.elim
          all_goals rename_i heq1 heq2
          all_goals first | (cases heq1; done) | (cases heq2; done) | skip
          rename_i k n
          injection heq2 with heq2
          refine Done.same H (c := .raw (.string (b.extract 0 n.toNat))) (x := .string (b.extract 0 n.toNat)) ?_ rfl (.raw _) hp.2.2
          simp [execOp, hxe, hlo heq2, Instr.sliceAt, run_underlying hu, Instr.slice, Instr.sliceBounds, Instr.sliceBound, asIntOf, hp.1, hp.2.1]
      | some l =>
        cases hi with
        | none =>
          simp only [Option.map_none, Option.map_some] at hp
          split at hp <;> try exact hp.elim
          all_goals rename_i heq1 heq2
          all_goals first | (cases heq1; done) | (cases heq2; done) | skip
          rename_i k n
          injection heq1 with heq1
          refine Done.same H (c := .raw (.string (b.extract n.toNat b.size))) (x := .string (b.extract n.toNat b.size)) ?_ rfl (.raw _) hp.2.2
          simp [execOp, hxe, hlo heq1, Instr.sliceAt, run_underlying hu, Instr.slice, Instr.sliceBounds, Instr.sliceBound, asIntOf, hp.1, hp.2.1]
        | some u =>
          simp only [Option.map_some] at hp
          split at hp <;> try exact hp.elim
          all_goals rename_i heq1 heq2
          all_goals first | (cases heq1; done) | (cases heq2; done) | skip
          rename_i k n k' m
          injection heq1 with heq1
          injection heq2 with heq2
          obtain ⟨h0, h1, h2, hk⟩ := hp
          refine Done.same H (c := .raw (.string (b.extract n.toNat m.toNat))) (x := .string (b.extract n.toNat m.toNat)) ?_ rfl (.raw _) hk
          have hm0 : 0 ≤ m := by omega
          have hmt : (m.toNat : Int) = m := Int.toNat_of_nonneg hm0
          simp [execOp, hxe, hlo heq1, hlo heq2, Instr.sliceAt, run_underlying hu, Instr.slice, Instr.sliceBounds, Instr.sliceBound, asIntOf, h0, h1, h2, hm0, hmt]
    · exact hp.elim
  case fieldAddr t x f =>
    have hv := (hs.ev x).2
    have hok := (hs.ev x).1
    split at hp
    · rename_i id st off o n hx hf
      rw [hx] at hv hok
      obtain ⟨fs, fl, i, hu, hfs, hi, h1, h2, h3⟩ := fldOf_spec hf
      obtain ⟨b, bo, hb, hxe⟩ := hv.ptr_get hp.1
      refine Done.same H (c := .ptr id st (off + o)) (x := .pointer (some ⟨b, bo + (off + o), none⟩)) ?_ (by simpa only [AV.ok] using hok) (vr_ptr_of hb) hp.2
      have hne : ¬ (i.size = 0) := by omega
      simp [execOp, Instr.fieldAt, run_underlying hu, hfs, hxe, Instr.sureAddr, fieldPlace, sizeOf_run hi, hne, h2, addr_add, Nat.add_assoc]
    · exact hp.elim
  case indexAddr t x i =>
    split at hp
    · rename_i e he
      split at hp
      · rename_i y k n hy hi
        have hiv := (hs.ev i).2
        rw [hi] at hiv
        have hie := raw_val hiv
        refine done_idx H he hy (hs.ev x).2 (k := k) hp ?_
        simp [execOp, hie]
      · exact hp.elim
    · exact hp.elim
  case index t x i =>
    split at hp
    · rename_i b k n hx hi
      obtain ⟨hstr, h0, h1, hk⟩ := hp
      have hiv := (hs.ev i).2
      rw [hi] at hiv
      have hxv := (hs.ev x).2
      rw [hx] at hxv
      obtain ⟨m, rfl⟩ := Int.eq_ofNat_of_zero_le h0
      have hm : m < b.size := by omega
      refine Done.same H (c := .raw (.int .u8 (b.data.toList.getD m 0).toNat)) (x := .int .u8 (b.data.toList.getD m 0).toNat) ?_ rfl (.raw _) (by simpa using hk)
      have := getD_toList b m hm
      simp [execOp, raw_val hiv, raw_val hxv, Instr.index, asIntOf, run_underlying (isStr_spec hstr), this]
    · exact hp.elim
  case extract x i =>
    split at hp
    · rename_i cs hx
      split at hp
      · rename_i c hc
        have hxv := (hs.ev x).2
        have hxo := (hs.ev x).1
        rw [hx] at hxv hxo
        cases hxe : a.eval x <;> rw [hxe] at hxv <;> cases hxv
        rename_i xs h1 h2
        have hi : i < xs.size := by have := lt_len hc; omega
        refine Done.same H (c := c) (x := xs[i]) ?_ (ok_of_mem (by simpa only [AV.ok] using hxo) hc) (h2 i c _ hc (Array.getElem?_eq_getElem hi)) hp
        simp [execOp, hxe, Instr.extract, hi]
      · exact hp.elim
    · exact hp.elim
  case call c =>
    obtain ⟨callee, args, argTypes⟩ := c
    simp only at hp
    have hargs : ∀ l, args.toList = l → args = l.toArray := fun l hl => by subst hl; simp
    have htys : ∀ l, argTypes.toList = l → argTypes = l.toArray := fun l hl => by subst hl; simp
    split at hp <;> try exact hp.elim
    · split at hp <;> try exact hp.elim
      rename_i x t hx ht
      have e1 := hargs _ hx
      have e2 := htys _ ht
      subst e1; subst e2
      have hv := (hs.ev x).2
      split at hp <;> try exact hp.elim
      · rename_i b hxb
        rw [hxb] at hv
        refine Done.same H (c := .raw (.int .i64 b.size)) (x := .int .i64 b.size) ?_ rfl (.raw _) hp.2
        simp [execOp, resolve, invoke, builtin, raw_val hv, Builtin.len_, run_underlying (isStr_spec hp.1), goInt]
      · rename_i id es len hxb
        rw [hxb] at hv
        exact done_len H hv ⟨_, _, hv.own_get hp.2.1⟩ hp.1 hp.2.2 (t := t) (ty := type) (by simp [execOp, resolve, invoke, builtin])
      · rename_i id st es lo len hxb
        rw [hxb] at hv
        obtain ⟨ad, cp, hxe, _⟩ := hv.sub_get hp.2.1
        exact done_len H hv ⟨_, _, hxe⟩ hp.1 hp.2.2 (t := t) (ty := type) (by simp [execOp, resolve, invoke, builtin])
      · rename_i hxb
        rw [hxb] at hv
        exact done_len H hv ⟨_, _, raw_val hv⟩ hp.1 (n := 0) (by simpa using hp.2) (t := t) (ty := type) (by simp [execOp, resolve, invoke, builtin])
    · split at hp <;> try exact hp.elim
      rename_i x y t t' hx ht
      have e1 := hargs _ hx
      have e2 := htys _ ht
      subst e1; subst e2
      obtain ⟨rfl, hp⟩ := hp
      split at hp <;> try exact hp.elim
      rename_i e he
      split at hp <;> try exact hp.elim
      rename_i ty hty
      split at hp <;> try exact hp.elim
      rename_i m news hsrc
      exact done_append H he hty (hs.ev x).2 (hs.ev x).1 (hs.ev y).2 hsrc (src_len hsrc) hp (ty := type) (by simp [execOp, resolve, invoke, builtin])
    · split at hp <;> try exact hp.elim
      rename_i x y hx
      have e1 := hargs _ hx
      subst e1
      split at hp <;> try exact hp.elim
      rename_i k p k' q hxe hye
      have hv1 := (hs.ev x).2
      have hv2 := (hs.ev y).2
      rw [hxe] at hv1
      rw [hye] at hv2
      refine Done.same H (c := .raw (.int k (if q < p then q else p))) (x := .int k (if q < p then q else p)) ?_ rfl (.raw _) hp
      simp [execOp, resolve, invoke, builtin, Builtin.min_, Builtin.min2, raw_val hv1, raw_val hv2]
    · split at hp <;> try exact hp.elim
      rename_i x y hx
      have e1 := hargs _ hx
      subst e1
      split at hp <;> try exact hp.elim
      rename_i k p k' q hxe hye
      have hv1 := (hs.ev x).2
      have hv2 := (hs.ev y).2
      rw [hxe] at hv1
      rw [hye] at hv2
      refine Done.same H (c := .raw (.int k (if q > p then q else p))) (x := .int k (if q > p then q else p)) ?_ rfl (.raw _) hp
      simp [execOp, resolve, invoke, builtin, Builtin.max_, Builtin.max2, raw_val hv1, raw_val hv2]

end
end Go.Ab
