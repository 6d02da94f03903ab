/-
  Parts of the proof of BoundNarrowsUptoSaid, put together: the abstract evaluation and its contracts. Own work.
  What is proved: each lemma as it stands; no condition.
-/
import Derived.LoopNIn
import Derived.Test.YtgleolmhpmljhaaGreatZBoundNarrowsM1
open Go.IntKind renaming wrap → qBZ
open List renaming get?Internal → qB0, length → qB1, getElem?_eq_getElem → qB3, getElem?_eq_some_iff → qB5, take → qB8, mem_of_getElem? → qCc, take_of_length_le → qCd, getElem?_append_left → qCf, drop → qCk, getElem?_set → qCn, getElem?_append_right → qCo, drop_eq_getElem_cons → qCp, length_append → qCq, replicate → qCr, drop_eq_nil_of_le → qCs, append → qCu, mem_append → qCy, set → qCA, mem_cons → qCB, getElem?_cons_zero → qCC, length_take → qCD, length_cons → qCE, length_map → qCH, range → qCJ
open Bool renaming and_eq_true → qB2, false_eq_true → qCg, not_true → qCj, not_false → qCm, and_self → qCx, true_and → qCF, or_eq_true → qCI
open Nat renaming ble → qB4, eq_of_beq_eq_true → qB9, le_refl → qCa, beq → qCh, mul_le_mul_right → qCv, beq_refl → qCw, ble_eq → qCz, zero_add → qCG
open Option renaming bind_eq_some_iff → qB6, map_eq_some_iff → qCb, bind_some → qCe, map_some → qCt
open Int renaming toNat → qB7, toNat_natCast → qCi
open Array renaming toList → qCl
set_option maxRecDepth 1000000
set_option maxHeartbeats 0
noncomputable section
namespace Go.Av
variable {C C' : qu} {μ μ' : MMap} {H H' : AH} {w w' : World} {P : Program}
theorem Grew.bytes(w:World)(e:TypeId)(s:ByteArray):Grew w (Lib.bytesWorld w e s) (Lib.bytesCells w e s) e:=
 ⟨rfl,rfl,rfl,Lib.bytesWorld_size w e s,λb hb=>Lib.bytesWorld_at_old w e s b hb,⟨_,Lib.bytesWorld_at_new w e s,λo ho h=>by simp at h;omega⟩⟩
theorem qi2{r:List AV}{l:List (List AV)}{bs:List UInt8}(h:xU (r::l)=some bs):
  ∃n bs',r=[.int .u8 n]∧0<=n∧n<256∧xU l=some bs'∧bs=UInt8.ofNat n.toNat::bs':=by
 unfold xU at h;split at h
 ·rename_i hh;cases hh
 ·rename_i n l' hh;cases hh;split at h
  ·rename_i hb;split at h
   ·rename_i bs' hbs;cases h;exact⟨n,bs',rfl,hb.1,hb.2,hbs,rfl⟩
   ·cases h
  ·cases h
 ·cases h
theorem qkF[Lent]:∀{rows:List (List AV)} {bs:List UInt8} {vs:List Value},xU rows=some bs->qT C μ 1 rows vs ->
  ∃ns:List Int,vs=ns.map (Value.int .u8)∧∀r:ByteArray,ns.foldl (λr n=>r.push (UInt8.ofNat n.toNat)) r=⟨r.data++bs.toArray⟩
 |[],bs,vs,h,hf=>by
  simp[xU]at h;subst h;have:vs=[]:=List.eq_nil_of_length_eq_zero (by simpa using hf.1);subst this;exact⟨[],rfl,λr=>by simp⟩
 |r::l,bs,vs,h,hf=>by
  obtain⟨n,bs',rfl,h0,h1,h2,rfl⟩:=qi2 h;obtain⟨_,hr⟩:=hf.2 0 _ rfl;obtain⟨_,v,hv,hrep⟩:=hr 0 _ rfl;cases hrep;cases vs with
  |nil=>simp at hv
  |cons v vs=>
   simp at hv;subst hv;have hd:=hf.drop 1;simp at hd;obtain⟨ns,e1,e2⟩:=qkF h2 hd;refine⟨n::ns,by simp[e1],λr=>?_⟩;simp only[List.foldl_cons,e2];simp[ByteArray.push]
theorem qme[Lent]{cfg:Cfg}(hc:CfgTy cfg)(h:Wld C μ H w){nid:Option Nat}{src dst:TypeId}{x r:AV}{vx:Value}(he:yW cfg nid src dst x H=some (r,H'))(hx:Rep C μ x vx):
  Runs cfg.P (convert src dst vx) C μ H w r H':=by
 unfold yW at he;split at he
 ·rename_i sd k k' n hs hd;cases he;cases hx;obtain⟨_,us,_,_,hus,_⟩:=hc.td hs;obtain⟨_,ud,_,_,hud,hd'⟩:=hc.td hd;have:=qjK hd';subst this;exact Runs.pure' h ⟨.int k (k.wrap n),by simp[convert,run_underlying hus,run_underlying hud,Conv.intToInt],.int _ _⟩
 ·rename_i sd s hs hd;cases he;cases hx;obtain⟨_,us,_,_,hus,_⟩:=hc.td hs;obtain⟨_,ud,_,_,hud,hd'⟩:=hc.td hd;have:=qd3 hd';subst this;exact Runs.pure' h ⟨_,by simp[convert,run_underlying hus,run_underlying hud],.str _⟩
 ·rename_i sd e s hs hd;obtain⟨_,us,_,_,hus,_⟩:=hc.td hs;obtain⟨_,ud,_,_,hud,hd'⟩:=hc.td hd;have:=vp hd';subst this;split at he
  case h_2=>cases he
  rename_i hte;obtain⟨_,ue,_,_,hue,he'⟩:=hc.td hte;have:=qjK he';subst this;split at he
  case h_2=>cases he
  rename_i k H1 hnew;cases he;cases hx;have hrun:=Lib.run_convert_string_bytes w src dst e ⟨s.toArray⟩ hus hud hue;have hsz:(⟨s.toArray⟩:ByteArray).size=s.length:=by simp[ByteArray.size]
  have hge:s.length<=grownCap w s.length 0 e:=by unfold grownCap Question.cut;exact Nat.le_add_right _ _
  have hcs:(Lib.bytesCells w e ⟨s.toArray⟩).size=grownCap w s.length 0 e:=by
   simp[Lib.bytesCells,hsz];omega
  have hfl:=qb9 (C:=C) (μ:=μ) s;obtain⟨g1,g2,g3⟩:=qcX h (Grew.bytes w e ⟨s.toArray⟩) hnew (by rw[hcs,zX];omega) (λi row hi'=>⟨(hfl.2 i row hi').1,λj y hj=>by
   obtain⟨c1,v,c2,c3⟩:=(hfl.2 i row hi').2 j y hj;refine⟨c1,v,?_,c3⟩;have hlt:=(qB5.1 c2).1;unfold Lib.bytesCells;rw[Array.getElem?_append_left (by simpa using hlt)]
   simpa using c2⟩) (λ_=>qft s)
  rw[hsz]at hrun;refine⟨_,_,C,_,hrun,.ms k 0 s.length _ _ _ (by unfold upd;rw[qCM rfl]) hge (λ_=>⟨by simp,?_⟩),g1,g2 _ (qCa _)⟩;show(0+grownCap w s.length 0 e)*1<=(Lib.bytesCells w e ⟨s.toArray⟩).size;rw[hcs];omega
 ·rename_i e hs hd _;split at he
  case h_2=>cases he
  rename_i rows hte hrows;split at he
  case h_2=>cases he
  rename_i bs hbs;cases he;obtain⟨_,us,_,_,hus,hs'⟩:=hc.td hs;have:=vp hs';subst this;obtain⟨_,ud,_,_,hud,hd'⟩:=hc.td hd;have:=qd3 hd';subst this;obtain⟨_,ue,_,_,hue,he'⟩:=hc.td hte;have:=qjK he';subst this;obtain⟨a,cap,vs,rfl,e2,e3,e4,_,e6⟩:=qbT (P:=cfg.P) h (n:=1) (by omega) hx hrows;obtain⟨ns,f1,f2⟩:=qkF hbs e3;refine Runs.pure' h ⟨.string ⟨bs.toArray⟩,?_,.str _⟩;rw[run_convert_bytes_string w src dst e a rows.length cap hus hue hud]
  have hfc:=e4 w rfl;cases a with
  |none=>
   have:rows=[]:=e6 rfl;subst this;simp[xU]at hbs;subst hbs;simp[Conv.bytesToString];rfl
  |some a=>
   have hl:(loadCells a rows.length).run cfg.P w= .ok (ns.map (Value.int .u8)).toArray w:=by
    simp[Builtin.firstCells]at hfc;rw[←f1];exact hfc
   rw[run_bytesToString w a rows.length cap ns hl,f2];have he0:ByteArray.empty.data= #[]:=rfl;rw[he0];simp
 ·cases he
theorem qgu[Lent](h:Wld C μ H w){nid:Option Nat}{k:Nat}{t:TypeId}{v:Value}{d:Bool}{cs:List AV}{vs:List Value}(hd:d=true->qw 0 cs=true)(hv:v.cells=vs.toArray)(hcs:yc C μ cs vs)(hn:aNew nid H (.rows d cs.length [cs])=some (k,H')):Runs P (do pure (.pointer (some (←newVar t v)))) C μ H w (.ptr k 0 0) H':=by
 have hfl:=qT.one_row rfl hcs;have hg:Grew w (w.alloc (.cells vs.toArray t)) vs.toArray t:=Grew.alloc _ _ _;obtain⟨g1,g2,g3⟩:=qcX h hg hn (by simp[hcs.1]) (λi row hi'=>⟨(hfl.2 i row hi').1,λj y hj=>by
  obtain⟨c1,v,c2,c3⟩:=(hfl.2 i row hi').2 j y hj;exact⟨c1,v,by simpa using c2,c3⟩⟩) (λh=>by simp[qI,hd h])
 refine⟨_,_,C,_,?_,.ptr k 0 0 (MI.mk4 w.heap.size 0 vs.toArray.size cs.length) (by unfold upd;rw[qCM rfl]),g1,g2 _ (qCa _)⟩;simp[newVar,newRow,hv]
theorem qgv[Lent](h:Wld C μ H w){nid:Option Nat}{k:Nat}{t e:TypeId}{v:Value}(hv:v.cells= #[.pointer none,.slice none 0 0])(hn:aNew nid H (.bld t e [])=some (k,H')):Runs P (do pure (.pointer (some (←newVar t v)))) C μ H w (.ptr k 0 0) H':=by
 have hg:Grew w (w.alloc (.cells #[.pointer none,.slice none 0 0] t)) #[.pointer none,.slice none 0 0] t:=Grew.alloc _ _ _;have hnl:¬Live H μ w.heap.size:=λhl=>Nat.lt_irrefl _ (h.live_lt hl)
 have hnc:∀o,C w.heap.size o=none:=λo=>by
  cases hc:C w.heap.size o with
  |none=>rfl
  |some v=>exact absurd (h.block_lt hc) (Nat.lt_irrefl _)
 have hw':=h.world (w':=w.alloc (.cells #[.pointer none,.slice none 0 0] t)) (by rw[hg.size];omega) (λb hb=>hg.old b hb);have hb:vZ C (upd μ k (MI.mk4 w.heap.size 0 2 2)) (w.alloc (.cells #[.pointer none,.slice none 0 0] t)) (MI.mk4 w.heap.size 0 2 2) (.bld t e []):=
  ⟨rfl,_,_,heap_alloc_new w _,.inl rfl,World.ownsRowF_nil _ 0 e 1,by simp[Value.ownBlock],λ_=>rfl,λg hg=>by simp[Value.ownBlock]at hg⟩
 obtain⟨e1,e2,e3,e4,e5⟩:=hw'.new4 hn hnl (by rw[hg.size];simp) hnc (h.lent_none (qCa _)) rfl hb trivial;refine⟨_,_,C,_,?_,.ptr k 0 0 (MI.mk4 w.heap.size 0 2 2) (by unfold upd;rw[qCM rfl]),e1,⟨hg.os,hg.tape,hg.output,by rw[hg.size];omega,λ_ _ _ h=>h,λid m' _ hm'=>⟨_,e2 id m' hm',.refl _⟩,λb hb hnl=>⟨hg.old b hb,λhl=>?_,rfl⟩,e3⟩⟩
 ·simp[newVar,newRow,hv]
 ·rcases e4 b hl with h'|h'
  ·exact hnl h'
  ·omega
theorem qqP[Lent]{cfg:Cfg}(hc:CfgTy cfg)(h:Wld C μ H w){nid:Option Nat}{t ty:TypeId}{x:Operand->AV}{r:AV}(he:evOp cfg nid (.alloc t) ty x H=some (r,H')):
  Runs cfg.P (Instr.alloc t true (.tuple #[])) C μ H w r H':=by
 simp only[evOp]at he;split at he
 case h_2=>cases he
 rename_i ti hti;split at he
 case isFalse=>cases he
 rename_i hall;split at he
 case h_2=>cases he
 rename_i k H1 hnew;cases he;obtain⟨z,hz1,hz2⟩:=qau (hc.ty _ _ hti) w
 by_cases hb:∃e,cfg.bld t=some e∧ti.zero=[.nilP,.nilS]
 ·obtain⟨e,hb1,hb2⟩:=hb;have hnew:aNew nid H (.bld t e [])=some (k,H'):=by rw[←hnew];unfold qaG;rw[hb1,hb2]
  have hzc:=qca (C:=C) (μ:=μ) hz2 hall;rw[hb2]at hzc;obtain⟨c0,c1,hcs⟩:∃c0 c1,z.cells.toList=[c0,c1]:=by
   have:=hzc.1
   match z.cells.toList,this with
   |[a,b],_=>exact⟨a,b,rfl⟩
  rw[hcs]at hzc;have r0:=(hzc.2 0 _ c0 rfl rfl).2;have r1:=(hzc.2 1 _ c1 rfl rfl).2;cases r0;cases r1;have hzv:z.cells= #[.pointer none,.slice none 0 0]:=by rw[←Array.toList_inj,hcs]
  obtain⟨v,w',C',μ',e1,e2,e3,e4⟩:=qgv (P:=cfg.P) (t:=t) (v:=z) h hzv hnew;refine⟨v,w',C',μ',?_,e2,e3,e4⟩;simp only[Instr.alloc,Sem.run_bind,hz1,Result.andThen_ok];exact e1
 replace hnew:aNew nid H (.rows (bigZ (cfg.fga t ti.zero)) ti.zero.length [cfg.fga t ti.zero])=some (k,H'):=by
  rw[←hnew];unfold qaG;split
  ·rename_i e h1 h2;exact absurd ⟨e,h1,h2⟩ hb
  ·rfl
 obtain⟨v,w',C',μ',e1,e2,e3,e4⟩:=qgu (P:=cfg.P) (t:=t) (v:=z) (vs:=z.cells.toList) (d:=bigZ (cfg.fga t ti.zero)) (cs:=cfg.fga t ti.zero) h (λh=>by unfold bigZ at h;rw[qB2]at h;exact h.2) (by simp) ((qca hz2 hall).fga cfg t) (by rw[qsR];exact hnew);refine⟨v,w',C',μ',?_,e2,e3,e4⟩;simp only[Instr.alloc,Sem.run_bind,hz1,Result.andThen_ok];exact e1
theorem qvc[Lent]{cfg:Cfg}(h:Wld C μ H w){nid:Option Nat}{t ty:TypeId}{a:Operand}{x:Operand->AV}{va:Value}{r:AV}(ha:Rep C μ (x a) va)(he:evOp cfg nid (.box t a) ty x H=some (r,H')):
  Runs cfg.P (Instr.box t va) C μ H w r H':=by
 simp only[evOp]at he;split at he
 case h_2=>cases he
 rename_i cs hcs;split at he
 case h_2=>cases he
 rename_i k H1 hnew;cases he;obtain⟨vs,e1,e2,e3,e4⟩:=ha.cells hcs
 by_cases hb:∃e,cfg.bld t=some e∧cs=[.nilP,.nilS]
 ·obtain⟨e,hb1,rfl⟩:=hb;have hnew:aNew nid H (.bld t e [])=some (k,H'):=by rw[←hnew];unfold qda;rw[hb1]
  obtain⟨c0,c1,rfl⟩:∃c0 c1,vs=[c0,c1]:=by
   match vs,e2 with
   |[a,b],_=>exact⟨a,b,rfl⟩
  have r0:=(e4 0 _ c0 rfl rfl).2;have r1:=(e4 1 _ c1 rfl rfl).2;cases r0;cases r1;exact qgv (P:=cfg.P) (t:=t) (v:=va) h (by rw[e1]) hnew
 replace hnew:aNew nid H (.rows (bigZ cs) cs.length [cs])=some (k,H'):=by
  rw[←hnew];unfold qda;split
  ·rename_i e h1;exact absurd ⟨e,h1,rfl⟩ hb
  ·rfl
 exact qgu (P:=cfg.P) (t:=t) (v:=va) (vs:=vs) (d:=bigZ cs) h (λh=>by unfold bigZ at h;rw[qB2]at h;exact h.2) e1 ⟨e2,e4⟩ hnew
theorem qi3[Lent]{cfg:Cfg}(hc:CfgTy cfg)(h:Wld C μ H w){nid:Option Nat}{t ty:TypeId}{len:Nat}{parts:Array (Nat×Operand)}{x:Operand->AV}{ρ:Operand->Value}(hx:∀a,Rep C μ (x a) (ρ a)){r:AV}(he:evOp cfg nid (.buildSlice t len parts) ty x H=some (r,H')):Runs cfg.P (Instr.buildSlice t len (parts.map fun(i,x)=>(i,ρ x))) C μ H w r H':=by
 simp only[evOp]at he;split at he
 case h_2=>cases he
 rename_i e ht;split at he
 case h_2=>cases he
 rename_i ei hei;split at he
 case isFalse=>cases he
 rename_i hcn;simp only[qB2,qCz]at hcn;obtain⟨hrz,hle⟩:=hcn;split at he
 case h_2=>cases he
 rename_i rows hrows;split at he
 case h_2=>cases he
 rename_i k H1 hnew;cases he;obtain⟨_,u,_,_,hu,hd⟩:=hc.td ht;have:=vp hd;subst this;have hte:=hc.ty _ _ hei;obtain⟨h0,hzl,hza⟩:=qcQ hrz;obtain⟨z,hz1,hz2⟩:=qau hte w;obtain⟨p1,p2⟩:=qmD hx parts;obtain⟨vs',g1,g2⟩:=qiD hrows (qep (C:=C) (μ:=μ) hz2 hrz len) p1 p2;have hrl:∀(parts:List (Nat×AV)) (r0 r1:List (List AV)),qbh ei.sz r0 parts=some r1->r1.length=r0.length:=by
  intro parts
  induction parts with
  |nil=>intro r0 r1 hh;simp[qbh]at hh;rw[hh]
  |cons p l ih=>
   intro r0 r1 hh;rw[qbh]at hh;split at hh
   ·split at hh
    ·rw[ih _ _ hh];simp
    ·cases hh
   ·cases hh
 have hrl:=hrl _ _ _ hrows;simp only[List.length_replicate]at hrl;have hg:Grew w (w.alloc (.cells vs' e)) vs' e:=Grew.alloc _ _ _;have hvs:vs'.size=rows.length*ei.sz:=by simpa using g2.1
 obtain⟨f1,f2,f3⟩:=qcX h hg hnew (by omega) (λi row hi'=>⟨(g2.2 i row hi').1,λj y hj=>by
  obtain⟨c1,v,c2,c3⟩:=(g2.2 i row hi').2 j y hj;exact⟨c1,v,by rw[←Array.getElem?_toList];exact c2,c3⟩⟩) (λh=>h)
 refine⟨_,_,C,_,?_,.ms k 0 len len _ (MI.mk4 w.heap.size 0 vs'.size ei.sz) (by unfold upd;rw[qCM rfl]) (qCa _) (λ_=>⟨rfl,?_⟩),f1,f2 _ (qCa _)⟩
 ·simp only[Instr.buildSlice,Sem.run_bind,run_underlying hu,Result.andThen_ok,qM hte];rw[qCN (by omega)];rw[Array.toArray_toList]at g1
  by_cases hl0:len*ei.sz=0
  ·simp only[qCM hl0,Sem.run_bind,Sem.run_pure,Result.andThen_ok];have hr0:∀f:Nat->Value,(Array.range (len*ei.sz)).map f= #[]:=λf=>by rw[hl0];simp
   rw[hr0]at g1⊢;rw[g1];simp[newRow]
  ·simp only[qCN hl0,Sem.run_bind,Result.andThen_ok,hz1,Sem.run_pure];rw[g1];simp[newRow]
 ·show(0+len)*ei.sz<=vs'.size;rw[hvs,hrl];simp
theorem qti[Lent]{cfg:Cfg}(hc:CfgTy cfg)(h:Wld C μ H w){t ty:TypeId}{x r:AV}{vx:Value}(he:aLen cfg t x H=some r)(hx:Rep C μ x vx):∃v,(Builtin.len_ #[t] ty #[vx]).run cfg.P w= .ok v w∧Rep C μ r v:=by
 unfold aLen at he;split at he
 ·rename_i s ht;cases he;cases hx;obtain⟨_,u,_,_,hu,hd⟩:=hc.td ht;have:=qd3 hd;subst this;exact⟨_,by simp[Builtin.len_,run_underlying hu];rfl,by simpa [goInt,ByteArray.size]using Rep.int (C:=C) (μ:=μ) .i64 s.length⟩
 ·rename_i e ht;cases he;cases hx;obtain⟨_,u,_,_,hu,hd⟩:=hc.td ht;have:=vp hd;subst this;exact⟨goInt 0,by simp[Builtin.len_,run_underlying hu],.int _ _⟩
 ·rename_i e ht;cases he;cases hx;obtain⟨_,u,_,_,hu,hd⟩:=hc.td ht;have:=vp hd;subst this;exact⟨goInt 0,by simp[Builtin.len_,run_underlying hu],.int _ _⟩
 ·rename_i e rows ht;obtain⟨_,u,_,_,hu,hd⟩:=hc.td ht;have:=vp hd;subst this;cases he;cases hx
  ·exact⟨goInt rows.length,by simp[Builtin.len_,run_underlying hu],.int _ _⟩
  ·exact⟨goInt 0,by simp[Builtin.len_,run_underlying hu],.int _ _⟩
 ·rename_i e id off len ht;cases he;obtain⟨_,u,_,_,hu,hd⟩:=hc.td ht;have:=vp hd;subst this;cases hx
  ·exact⟨goInt len,by simp[Builtin.len_,run_underlying hu],.int _ _⟩
  ·exact⟨goInt 0,by simp[Builtin.len_,run_underlying hu],.int _ _⟩
 ·rename_i e rows ht;obtain⟨_,u,_,_,hu,hd⟩:=hc.td ht;have:=vp hd;subst this;cases he;cases hx with
  |lsl _ _ h0=>
   cases h0
   ·exact⟨goInt rows.length,by simp[Builtin.len_,run_underlying hu],.int _ _⟩
   ·exact⟨goInt 0,by simp[Builtin.len_,run_underlying hu],.int _ _⟩
 ·rename_i e id rows ht;obtain⟨_,u,_,_,hu,hd⟩:=hc.td ht;have:=vp hd;subst this;cases he;cases hx with
  |rsl _ _ _ D hD h0=>
   cases h0
   ·exact⟨goInt rows.length,by simp[Builtin.len_,run_underlying hu],.int _ _⟩
   ·exact⟨goInt 0,by simp[Builtin.len_,run_underlying hu],.int _ _⟩
 ·rename_i n e ht;cases he;obtain⟨_,u,_,_,hu,hd⟩:=hc.td ht;have:=qcM hd;subst this;exact⟨goInt n,by cases vx<;>simp[Builtin.len_,run_underlying hu],.int _ _⟩
 ·rename_i k e ht;cases he;cases hx;obtain⟨_,u,_,_,hu,hd⟩:=hc.td ht;have:=qbR hd;subst this;exact⟨goInt 0,by simp[Builtin.len_,run_underlying hu],.int _ _⟩
 ·rename_i k e id ht;split at he
  case h_2=>cases he
  rename_i es hid;cases he;cases hx with
  |mp _ m hm=>
   obtain⟨_,u,_,_,hu,hd⟩:=hc.td ht;have:=qbR hd;subst this;obtain⟨_,_,arr,clock,h2,h3,_⟩:=h.liveM hid rfl hm;refine⟨goInt arr.size,?_,by rw[h3];exact .int _ _⟩;simp[Builtin.len_,run_underlying hu,getObj,Sem.run,h2]
 ·cases he
theorem qtj[Lent]{cfg:Cfg}(hc:CfgTy cfg){t ty:TypeId}{x r:AV}{vx:Value}(he:aCap cfg t x=some r)(hx:Rep C μ x vx):∃v,(Builtin.cap_ #[t] ty #[vx]).run cfg.P w= .ok v w∧Rep C μ r v:=by
 unfold aCap at he;split at he
 ·rename_i e n v ht;obtain⟨c,hl,rfl⟩:=qCb.1 he;obtain⟨_,u,_,_,hu,hd⟩:=hc.td ht;have:=vp hd;subst this;cases hx with
  |wr _ _ ad c' hn h0=>
   obtain rfl:=h0.lenW hl;exact⟨goInt c,by simp[Builtin.cap_,run_underlying hu],.int _ _⟩
 ·cases he
theorem qla[Lent]{lt:Int->Int->Bool}{f:Value->Value->Sem Value}(hf:∀(k k':IntKind) (a b:Int),(f (.int k a) (.int k' b)).run P w= .ok (.int k (if lt b a then b else a)) w){x y r:AV}{vx vy:Value}(he:aMin lt [x,y]=some r)(hx:Rep C μ x vx)(hy:Rep C μ y vy):∃v,([vy].foldlM f vx).run P w= .ok v w∧Rep C μ r v:=by
 unfold aMin at he;split at he
 ·rename_i k a k' b heq;cases heq;split at he
  ·cases he;cases hx;cases hy;exact⟨_,by simp[hf],.int _ _⟩
  ·cases he
 ·cases he
variable {C C' : qu} {μ μ' : MMap} {H H' : AH} {w w' : World} {P : Program}
theorem qsp{u:TypeDesc}{d:TD}(hd:tdOf u=d)(hk:d.keyed=true):(∃k,u= .int k∧d= .int k)∨(u= .string∧d= .str):=by
 cases u<;>simp_all [tdOf,TD.keyed]<;>(subst hd;simp at hk)
theorem qgd{kt:TypeId}{u:TypeDesc}{d:TD}(hu:P.underlying kt=some u)(hd:tdOf u=d)(hk:d.keyed=true)(b:Bool)(v:Value):(Instr.checkKey b 10000 kt v).run P w= .ok () w:=by
 rcases qsp hd hk with⟨k,rfl,rfl⟩|⟨rfl,rfl⟩
 ·unfold Instr.checkKey;simp[run_underlying hu]
 ·unfold Instr.checkKey;simp[run_underlying hu]
theorem qis[Lent]{u:TypeDesc}{d:TD}(hd:tdOf u=d){k k':AV}{v v':Value}(hk:Rep C μ k v)(hk':Rep C μ k' v'){b:Bool}(h:qsq d k k'=some b):
  Instr.sameNow u v v'=some b∧(b=true->Instr.sameBits 10000 v' v=true):=by
 unfold qsq at h;split at h
 ·rename_i ik a x b' y;split at h
  ·rename_i e;subst e;cases h;cases hk;cases hk';obtain rfl:u= .int ik:=qjK hd;refine⟨by simp[Instr.sameNow],λhb=>?_⟩;have:x=y:=by simpa using hb
   subst this;simp[Instr.sameBits]
  ·cases h
 ·rename_i a b';cases h;cases hk;cases hk';obtain rfl:u= .string:=qd3 hd;have e:((⟨a.toArray⟩:ByteArray)==⟨b'.toArray⟩)=(a==b'):=by
   show(a.toArray==b'.toArray)=(a==b');simp
  refine⟨by simp only[Instr.sameNow,e],λhb=>?_⟩;have:a=b':=by simpa using hb
  subst this;unfold Instr.sameBits;show(a.toArray==a.toArray)=true;simp
 ·cases h
def qhM[Lent](C:qu)(μ:MMap)(es:List (AV×AV))(arr:List MapEntry):Prop:=arr.length=es.length∧∀(i:Nat) e me,es[i]? =some e->arr[i]? =some me->Rep C μ e.1 me.key∧Rep C μ e.2 me.val
theorem zx[Lent]{u:TypeDesc}{d:TD}(hd:tdOf u=d){k:AV}{v:Value}(hk:Rep C μ k v):∀(es:List (AV×AV)) (arr:List MapEntry) (i:Nat) (r:Option (Nat×AV)),qhM C μ es arr->qbt d k es i=some r ->
  match r with
  |none=>Instr.findNow u v arr i=some none
  |some (j,a)=>∃(me:MapEntry),i<=j∧arr[j - i]? =some me∧Rep C μ a me.val∧Instr.findNow u v arr i=some (some (j,me.val))∧Instr.sameBits 10000 me.key v=true
 |[],arr,i,r,he,h=>by
  obtain rfl:arr=[]:=List.length_eq_zero_iff.1 he.1;cases h;rfl
 |e::es,[],i,r,he,h=>by simp[qhM]at he
 |e::es,me::arr,i,r,he,h=>by
  have h0:=he.2 0 e me rfl rfl;have ht:qhM C μ es arr:=⟨by simpa using he.1,λj e' me' h1 h2=>he.2 (j+1) e' me' (by simpa using h1) (by simpa using h2)⟩;rw[qbt]at h;split at h
  ·rename_i hki;cases h;obtain⟨h1,h2⟩:=qis hd hk h0.1 hki;exact⟨me,qCa _,by simp,h0.2,by simp[Instr.findNow,h1],h2 rfl⟩
  ·rename_i hki;obtain⟨h1,_⟩:=qis hd hk h0.1 hki;have:=zx hd hk es arr (i+1) r ht h;cases r with
   |none=>
    show Instr.findNow u v (me::arr) i=some none;rw[Instr.findNow,h1];exact this
   |some q=>
    obtain⟨j,a⟩:=q;obtain⟨m',g1,g2,g3,g4,g5⟩:=this;refine⟨m',by omega,?_,g3,?_,g5⟩
    ·obtain⟨c,hc⟩:∃c,j - i=c+1:=⟨j - i - 1,by omega⟩;rw[hc,List.getElem?_cons_succ];rw[show c=j - (i+1) by omega];exact g2
    ·rw[Instr.findNow,h1];exact g4
  ·cases h
theorem qpB[Lent]{cfg:Cfg}(hc:CfgTy cfg){t:TypeId}{z:AV}(h:cfg.zeroV t=some z):∃v,(∀w,(zeroValue t).run cfg.P w= .ok v w)∧Rep C μ z v:=by
 unfold Cfg.zeroV at h;split at h
 case h_2=>cases h
 rename_i ti hti;obtain⟨v,h1,h2,h3⟩:=qvN (hc.ty _ _ hti);refine⟨v,h1,?_⟩;split at h
 ·rename_i ha;cases h;rw[ha]at h3;cases v with
  |agg cs=>
   have:=qim (C:=C) (μ:=μ) (.agg cs);rw[h2];exact this
  |_=>simp[qgM]at h3
 ·rename_i ha;have ha:qgM v=false:=by rw[h3];simpa using ha
  split at h
  ·rename_i hy;cases h;have hr:=qaX (C:=C) (μ:=μ) v;have:vX v=z:=by
    rw[hy]at h2;cases v with
    |agg cs=>simp[qgM]at ha
    |_=>simpa [Value.cells]using h2.symm
   rw[←this];exact hr
  ·cases h
theorem qqd[Lent](h:Wld C μ H w){x:AV}{vx:Value}{es:List (AV×AV)}(he:qdj H x=some es)(hx:Rep C μ x vx):
  (vx= .map none∧es=[])∨∃b arr clock,vx= .map (some b)∧w.heap[b]? =some (.map arr clock)∧qhM C μ es arr.toList:=by
 unfold qdj at he;split at he
 ·cases he;cases hx;exact .inl ⟨rfl,rfl⟩
 ·rename_i id;split at he
  case h_2=>cases he
  rename_i es' hid;cases he;cases hx with
  |mp _ m hm=>
   obtain⟨_,_,arr,clock,h1,h2,h3⟩:=h.liveM hid rfl hm;exact .inr ⟨m.block,arr,clock,rfl,h1,by simpa using h2,λi e me a1 a2=>h3 i e me a1 (by simpa using a2)⟩
 ·cases he
theorem qnf[Lent]{cfg:Cfg}(hc:CfgTy cfg)(h:Wld C μ H w){t:TypeId}{x k r:AV}{ok:Bool}{vx vk:Value}(he:qah cfg t x k ok H=some r)(hx:Rep C μ x vx)(hk:Rep C μ k vk):
  ∃v,(Instr.lookup t vx vk ok).run cfg.P w= .ok v w∧Rep C μ r v:=by
 unfold qah at he;split at he
 case h_2=>cases he
 rename_i kt et ht;split at he
 case h_2=>cases he
 rename_i d es hkd hes;split at he
 case isFalse=>cases he
 rename_i hkey;obtain⟨_,u,_,_,hu,hdd⟩:=hc.td ht;have:=qbR hdd;subst this;obtain⟨_,uk,_,_,huk,hdk⟩:=hc.td hkd;have tupR:∀{a:AV} {v:Value} (b:Bool),Rep C μ a v->Rep C μ (if ok then .tup [a,.bool b]else a) (if ok then .tuple #[v,.bool b]else v):=by
  intro a v b ha;cases ok with
  |false=>exact ha
  |true=>
   refine .tup [a,.bool b] [v,.bool b] rfl (λi a' v' h1 h2=>?_)
   match i,h1,h2 with
   |0,h1,h2=>simp at h1 h2;subst h1 h2;exact ha
   |1,h1,h2=>simp at h1 h2;subst h1 h2;exact .bool _
   |(i+2),h1,h2=>simp at h1
 have key:∀(arr:Array MapEntry),qhM C μ es arr.toList ->
   (∃j u,Instr.findNow uk vk arr.toList 0=some (some (j,u))∧Rep C μ r (if ok then .tuple #[u,.bool true]else u)) ∨
   (Instr.findNow uk vk arr.toList 0=some none∧∃u,(∀w,(zeroValue et).run cfg.P w= .ok u w)∧Rep C μ r (if ok then .tuple #[u,.bool false]else u)):=by
  intro arr hr;split at he
  ·rename_i q hq;cases he;have:=zx hdk hk es arr.toList 0 _ hr hq;obtain⟨j,a⟩:=q;obtain⟨me,_,_,g3,g4,_⟩:=this;exact .inl ⟨j,me.val,g4,tupR true g3⟩
  ·rename_i hq;have:=zx hdk hk es arr.toList 0 _ hr hq;split at he
   case h_2=>cases he
   rename_i z hz;cases he;obtain⟨vz,hz1,hz2⟩:=qpB (C:=C) (μ:=μ) hc hz;exact .inr ⟨this,vz,hz1,tupR false hz2⟩
  ·cases he
 have hck:=λb=>qgd (w:=w) huk hdk hkey b vk
 rcases qqd h hes hx with⟨rfl,rfl⟩|⟨b,arr,clock,rfl,hb,hr⟩
 ·rcases key #[] ⟨rfl,λi e me a1 _=>by simp at a1⟩with⟨j,u,g1,g2⟩|⟨g1,u,g2,g3⟩
  ·exact⟨_,by simp[Instr.findNow]at g1,g2⟩
  ·exact⟨_,by simp[Instr.lookup,run_underlying hu,hck,Instr.findKey,run_underlying huk,Instr.findNow,g2],g3⟩
 ·rcases key arr hr with⟨j,u,g1,g2⟩|⟨g1,u,g2,g3⟩
  ·exact⟨_,by simp[Instr.lookup,run_underlying hu,qaT hb,hck,Instr.findKey,run_underlying huk,g1],g2⟩
  ·exact⟨_,by simp[Instr.lookup,run_underlying hu,qaT hb,hck,Instr.findKey,run_underlying huk,g1,g2],g3⟩
theorem qfx[Lent]{cfg:Cfg}(hc:CfgTy cfg)(h:Wld C μ H w){t:TypeId}{x k v:AV}{vx vk vv:Value}(he:qaP cfg t x k v H=some H')(hx:Rep C μ x vx)(hk:Rep C μ k vk)(hv:Rep C μ v vv):
  ∃w',(Instr.mapUpdate t vx vk vv).run cfg.P w= .ok () w'∧Wld C μ H' w'∧∀j,j<=H.length->Ext j C μ H w C μ H' w':=by
 unfold qaP at he;split at he
 case h_2=>cases he
 rename_i kt et id ht;split at he
 case h_2=>cases he
 rename_i d d0 es hkd hid;split at he
 case isFalse=>cases he
 rename_i hkey;have hfree:=h.free.get hid;obtain⟨_,u,_,_,hu,hdd⟩:=hc.td ht;have:=qbR hdd;subst this;obtain⟨_,uk,_,_,huk,hdk⟩:=hc.td hkd;have hck:=λb=>qgd (w:=w) huk hdk hkey b vk
 cases hx with
 |mp _ m hm=>
  obtain⟨_,_,arr,clock,h1,h2,h3⟩:=h.liveM hid rfl hm;have hr:qhM C μ es arr.toList:=⟨by simpa using h2,λi e me a1 a2=>h3 i e me a1 (by simpa using a2)⟩;split at he
  ·rename_i q hq;cases he;have:=zx hdk hk es arr.toList 0 _ hr hq;obtain⟨j,a⟩:=q;obtain⟨me,_,g2,g3,g4,g5⟩:=this;have g2:arr[j]? =some me:=by simpa using g2
   obtain⟨p1,p2⟩:=qlA h hid hm (d0&&(k.refsLt 0&&v.refsLt 0)) (es':=es.set j (k,v)) (λhd i e a1=>by
    simp only[qB2]at hd;rw[qCn]at a1;split at a1
    ·split at a1
     ·cases a1;exact hd.2
     ·cases a1
    ·exact hfree hd.1 i e a1) (arr:=arr.modify j λe=>{ e with key:=vk,val:=vv }) (c:=clock) (by simpa using h2) (λi e me' a1 a2=>by
    rw[qCn]at a1;rw[Array.getElem?_modify]at a2
    by_cases hij:j=i
    ·subst hij;rw[qCM rfl]at a1 a2;rw[g2]at a2;split at a1
     ·simp at a1 a2;subst a1 a2;exact⟨hk,hv⟩
     ·cases a1
    ·rw[qCN hij]at a1 a2;exact h3 i e me' a1 a2)
   refine⟨_,?_,p1,p2⟩;simp[Instr.mapUpdate,run_underlying hu,qaT h1,hck,Instr.findKey,run_underlying huk,g4,g2,Instr.keyThatStays,g5,qeJ h1]
  ·rename_i hq;cases he;have:=zx hdk hk es arr.toList 0 _ hr hq;have this:Instr.findNow uk vk arr.toList 0=some none:=this;obtain⟨p1,p2⟩:=qlA h hid hm (d0&&(k.refsLt 0&&v.refsLt 0)) (es':=es++[(k,v)]) (λhd i e a1=>by
    simp only[qB2]at hd;rw[List.getElem?_append]at a1;split at a1
    ·exact hfree hd.1 i e a1
    ·rcases hn:i - es.length with _|n
     ·rw[hn]at a1;simp at a1;subst a1;exact hd.2
     ·rw[hn]at a1;simp at a1) (arr:=arr.push { key:=vk,val:=vv,born:=clock }) (c:=clock+1) (by simp[h2]) (λi e me' a1 a2=>by
    rw[List.getElem?_append]at a1;rw[Array.getElem?_push]at a2
    by_cases hi:i<es.length
    ·rw[qCM hi]at a1;rw[qCN (by omega)]at a2;exact h3 i e me' a1 a2
    ·rw[qCN hi]at a1
     by_cases hi2:i=arr.size
     ·rw[qCM hi2]at a2;subst hi2;simp[h2]at a1 a2;subst a1 a2;exact⟨hk,hv⟩
     ·rw[qCN hi2]at a2;have:i<arr.size:=(Array.getElem?_eq_some_iff.1 a2).1;omega)
   refine⟨_,?_,p1,p2⟩;simp[Instr.mapUpdate,run_underlying hu,qaT h1,hck,Instr.findKey,run_underlying huk,this,qeJ h1]
  ·cases he
theorem qm3[Lent]{cfg:Cfg}(hc:CfgTy cfg)(h:Wld C μ H w){nid:Option Nat}{t ty:TypeId}{rv:Option Operand}{x:Operand->AV}{ρ:Operand->Value}(hx:∀a,Rep C μ (x a) (ρ a)){r:AV}(he:evOp cfg nid (.makeMap t rv) ty x H=some (r,H')):
  Runs cfg.P (Instr.makeMap t (rv.map ρ)) C μ H w r H':=by
 simp only[evOp]at he;split at he
 case h_2=>cases he
 rename_i kt et b ht hb;split at he
 case h_2=>cases he
 rename_i k H1 hnew;cases he;obtain⟨_,u,_,_,hu,hdd⟩:=hc.td ht;have:=qbR hdd;subst this;have hrun:(Instr.makeMap t (rv.map ρ)).run cfg.P w= .ok (.map (some w.heap.size)) (w.alloc (.map #[] 0)):=by
  cases rv with
  |none=>simp[Instr.makeMap]
  |some a=>
   have ha:=hx a;simp only at hb;split at hb
   ·rename_i ik n hxa;rw[hxa]at ha;generalize hv:ρ a=va at ha;cases ha;simp[Instr.makeMap,run_underlying hu,hv,asInt,asIntOf]
   ·cases hb
 have hnl:¬Live H μ w.heap.size:=λhl=>Nat.lt_irrefl _ (h.live_lt hl)
 have hnc:∀o,C w.heap.size o=none:=λo=>by
  cases hc:C w.heap.size o with
  |none=>rfl
  |some v=>exact absurd (h.block_lt hc) (Nat.lt_irrefl _)
 have old:∀b,b<w.heap.size->(w.alloc (.map #[] 0)).heap[b]? =w.heap[b]? :=λb hb=>by
  show(w.heap.push _)[b]? =_;rw[Array.getElem?_push,qCN (by omega)]
 have hsz:(w.alloc (.map #[] 0)).heap.size=w.heap.size+1:=by simp
 have hw':Wld C μ H (w.alloc (.map #[] 0)):=h.world (by rw[hsz];omega) (λb hb=>old b hb);obtain⟨e1,e2,e3,e4,e5⟩:=hw'.new4 (B:=w.heap.size) (b0:=0) (n0:=0) (z0:=0) hnew hnl (by rw[hsz];simp) hnc (h.lent_none (qCa _)) rfl
  ⟨#[],0,by show(w.heap.push _)[w.heap.size]? =_;simp,rfl,λi e me a1 _=>by simp at a1⟩ (λ_ i e a1=>by simp at a1)
 refine⟨_,_,C,_,hrun,.mp k (MI.mk4 w.heap.size 0 0 0) (by unfold upd;rw[qCM rfl]),e1,rfl,rfl,rfl,by rw[hsz];omega,λ_ _ _ h=>h,λid m' _ hm'=>⟨_,e2 id m' hm',.refl _⟩,λb hb hnl=>⟨old b hb,λhl=>?_,rfl⟩,e3⟩;rcases e4 b hl with hl|hl
 ·exact hnl hl
 ·omega
variable {C C' : qu} {μ μ' : MMap} {H H' : AH} {w w' : World} {P : Program}
def qyT[Lent](C:qu)(μ:MMap)(r:AV)(n:Next):Prop:=(∃v,n= .value v∧Rep C μ r v)∨(n= .skip∧r= .junk)
def qdv[Lent](P:Program)(s:Sem Next)(C:qu)(μ:MMap)(H:AH)(w:World)(a:AV)(H':AH):Prop:=
 ∃n w' C' μ',s.run P w= .ok n w'∧qyT C' μ' a n∧Wld C' μ' H' w'∧Ext H.length C μ H w C' μ' H' w'
theorem Runs.v[Lent]{s:Sem Value}{a:AV}(h:Runs P s C μ H w a H'):qdv P (do pure (.value (←s))) C μ H w a H':=by
 obtain⟨v,w',C',μ',h1,h2,h3,h4⟩:=h;exact⟨.value v,w',C',μ',by simp[h1],.inl ⟨v,rfl,h2⟩,h3,h4⟩
theorem qdv.pure'[Lent](h:Wld C μ H w){v:Value}{a:AV}(hr:Rep C μ a v):qdv P (pure (.value v)) C μ H w a H:=
 ⟨.value v,w,C,μ,by simp,.inl ⟨v,rfl,hr⟩,h,Ext.refl (qCa _)⟩
theorem Runs.opt[Lent](h:Wld C μ H w){s:Sem Value}{x:Option AV}{r:AV}(he:(x.map λv=>(v,H))=some (r,H'))(hr:∀r,x=some r->∃v,s.run P w= .ok v w∧Rep C μ r v):Runs P s C μ H w r H':=by
 obtain⟨y,hy,hy2⟩:=qCb.1 he;cases hy2;exact Runs.pure' h (hr _ hy)
theorem qiT[Lent]{x:Operand->AV}{ρ:Operand->Value}(hx:∀a,Rep C μ (x a) (ρ a))(l:List Operand):
  ∀(i:Nat) a v,(l.map x)[i]? =some a->(l.map ρ)[i]? =some v->Rep C μ a v:=by
 intro i a v h1 h2;obtain⟨o,ho,rfl⟩:=qz h1;obtain⟨o',ho',rfl⟩:=qz h2;rw[ho]at ho';cases ho';exact hx _
theorem qns{α:Type}{a:Array α}{x:α}(h:a.toList=[x]):a= #[x]:=by rw[←Array.toArray_toList (xs:=a),h]
theorem qsm{α:Type}{a:Array α}{x y:α}(h:a.toList=[x,y]):a= #[x,y]:=by rw[←Array.toArray_toList (xs:=a),h]
theorem map1{α β:Type}{a:Array α}{x:α}(f:α->β)(h:a.toList=[x]):a.map f= #[f x]:=by rw[qns h];simp
theorem map2{α β:Type}{a:Array α}{x y:α}(f:α->β)(h:a.toList=[x,y]):a.map f= #[f x,f y]:=by rw[qsm h];simp
theorem qnc[Lent]{cfg:Cfg}(hc:CfgTy cfg)(h:Wld C μ H w){nid:Option Nat}{c:Call}{ty:TypeId}{x:Operand->AV}{ρ:Operand->Value}(hx:∀a,Rep C μ (x a) (ρ a)){r:AV}(he:evOp cfg nid (.call c) ty x H=some (r,H')):qdv cfg.P (do let d←resolve ρ c ty;invoke d.target d.args) C μ H w r H':=by
 obtain⟨callee,args,argTypes⟩:=c;simp only[evOp]at he;have go:∀b,callee= .builtin b->∀s:Sem Value,(∀consts vs,vs=args.map ρ->builtin b argTypes ty consts vs=(do pure (.value (←s))))->Runs cfg.P s C μ H w r H' ->
   qdv cfg.P (do let d←resolve ρ ⟨callee,args,argTypes⟩ ty;invoke d.target d.args) C μ H w r H':=by
  intro b hb s hs hr;subst hb;have:=hr.v;obtain⟨n,w',C',μ',h1,h2⟩:=this;refine⟨n,w',C',μ',?_,h2⟩;simp only[resolve,Sem.run_bind,Sem.run_pure,Result.andThen_ok,invoke];rw[hs _ _ rfl];exact h1
 split at he
 ·rename_i a t ha ht;refine go _ rfl (Builtin.len_ argTypes ty (args.map ρ)) (λconsts vs hv=>by subst hv;rfl) (Runs.opt h he λr hr=>?_);rw[map1 _ ha,qns ht];exact qti hc h hr (hx a).unwr
 ·rename_i a t ha ht;refine go _ rfl (Builtin.cap_ argTypes ty (args.map ρ)) (λconsts vs hv=>by subst hv;rfl) (Runs.opt h he λr hr=>?_);rw[map1 _ ha,qns ht];exact qtj hc hr (hx a)
 ·rename_i s a t xt ha ht;refine go _ rfl (Builtin.append_ argTypes ty (args.map ρ)) (λconsts vs hv=>by subst hv;rfl) ?_;rw[map2 _ ha,qsm ht];exact qng hc h he (hx s) (hx a)
 ·rename_i d s t xt ha ht;refine go _ rfl (Builtin.copy_ argTypes ty (args.map ρ)) (λconsts vs hv=>by subst hv;rfl) ?_;rw[map2 _ ha,qsm ht];exact qqS hc h he (hx d).unwr (hx s)
 ·rename_i a t ha ht;obtain⟨H1,h1,h2⟩:=qCb.1 he;cases h2;refine go _ rfl (Builtin.clear_ argTypes ty (args.map ρ)) (λconsts vs hv=>by subst hv;rfl) ?_;rw[map1 _ ha,qns ht];exact qpw hc h h1 (hx a)
 ·rename_i a b ha;refine go _ rfl (Builtin.min_ argTypes ty (args.map ρ)) (λconsts vs hv=>by subst hv;rfl) (Runs.opt h he λr hr=>?_);have:=qla (P:=cfg.P) (w:=w) (f:=Builtin.min2) (λk k' a b=>by simp[Builtin.min2]) hr (hx a) (hx b);rw[map2 _ ha];exact this
 ·rename_i a b ha;refine go _ rfl (Builtin.max_ argTypes ty (args.map ρ)) (λconsts vs hv=>by subst hv;rfl) (Runs.opt h he λr hr=>?_);have:=qla (P:=cfg.P) (w:=w) (f:=Builtin.max2) (λk k' a b=>by simp[Builtin.max2]) hr (hx a) (hx b);rw[map2 _ ha];exact this
 ·cases he
theorem qkN[Lent]{cfg:Cfg}(hc:CfgTy cfg)(h:Wld C μ H w){nid:Option Nat}{o:Oper}{x:Operand->AV}{ρ:Operand->Value}(hx:∀a,Rep C μ (x a) (ρ a)){r:AV}(he:evOp cfg nid o.op o.type x H=some (r,H')):
  qdv cfg.P (execOp ρ o) C μ H w r H':=by
 obtain⟨dst,op,ty,pos,after,guard⟩:=o;simp only at he;cases op with
 |move a=>simp only[evOp]at he;cases he;exact .pure' h (hx a)
 |assign a=>simp only[evOp]at he;cases he;exact .pure' h (hx a)
 |pick c a b=>
  simp only[evOp]at he;split at he
  case h_2=>cases he
  rename_i t ht;have hcv:=hx c;rw[ht]at hcv;generalize hv:ρ c=vc at hcv;cases hcv;cases t
  ·cases he;refine⟨.value (ρ b),w,C,μ,?_,.inl ⟨_,rfl,hx b⟩,h,Ext.refl (qCa _)⟩;simp only[execOp,hv];simp[asBool]
  ·cases he;refine⟨.value (ρ a),w,C,μ,?_,.inl ⟨_,rfl,hx a⟩,h,Ext.refl (qCa _)⟩;simp only[execOp,hv];simp[asBool]
 |alloc t=>exact(qqP hc h he).v
 |box t a=>exact(qvc h (hx a) he).v
 |build t parts=>
  obtain⟨rfl,v,h1,h2⟩:=qqM (w:=w) hc hx he;exact(Runs.pure' h ⟨v,h1,h2⟩).v
 |buildSlice t len parts=>exact(qi3 hc h hx he).v
 |load t a=>
  simp only[evOp]at he;split at he
  case h_2=>cases he
  rename_i ti hti;refine(Runs.opt h he λr hr=>?_).v;obtain⟨ad,u,h1,h2,h3⟩:=qkc h (hc.ty _ _ hti) (hx a) hr;exact⟨u,by rw[h1];exact h2,h3⟩
 |store t a v=>
  simp only[evOp]at he;split at he
  case h_2=>cases he
  rename_i n hn;obtain⟨H1,h1,h2⟩:=qCb.1 he;cases h2;obtain⟨ti,hti,rfl⟩:=hc.sz hn;obtain⟨ad,w',e1,e2,e3,e4⟩:=qpQ h hti (hx a) (hx v) h1;refine⟨.skip,w',C,μ,?_,.inr ⟨rfl,rfl⟩,e3,e4 _ (qCa _)⟩;have:(Instr.storeAt t (ρ a) (ρ v)).run cfg.P w= .ok () w':=by rw[e1];exact e2
  simp[execOp,this]
 |nilCheck a=>
  simp only[evOp]at he;have ha:=hx a;split at he
  ·rename_i id r off hxa;cases he;rw[hxa]at ha;generalize hv:ρ a=va at ha;cases ha with|ptr _ _ _ m hm=>
    rw[show execOp ρ ⟨dst,.nilCheck a,ty,pos,after,guard⟩=pure (.value (ρ a)) by simp only[execOp,hv],hv];exact .pure' h (.ptr _ _ _ m hm)
  ·rename_i cs off hxa;cases he;rw[hxa]at ha;generalize hv:ρ a=va at ha;cases ha with|cptr _ _ b o vals h1 h2=>
    rw[show execOp ρ ⟨dst,.nilCheck a,ty,pos,after,guard⟩=pure (.value (ρ a)) by simp only[execOp,hv],hv];exact .pure' h (.cptr _ _ b o vals h1 h2)
  ·rename_i f p q hxa;cases he;rw[hxa]at ha;generalize hv:ρ a=va at ha;cases ha with|fn _ _ _ vf vc h1 h2 h3 h4=>
    rw[show execOp ρ ⟨dst,.nilCheck a,ty,pos,after,guard⟩=pure (.value (ρ a)) by simp only[execOp,hv],hv];exact .pure' h (.fn _ _ _ vf vc h1 h2 h3 h4)
  ·rename_i id hxa;cases he;rw[hxa]at ha;generalize hv:ρ a=va at ha;cases ha with|mp _ m hm=>
    rw[show execOp ρ ⟨dst,.nilCheck a,ty,pos,after,guard⟩=pure (.value (ρ a)) by simp only[execOp,hv],hv];exact .pure' h (.mp _ m hm)
  ·rename_i id hxa;cases he;rw[hxa]at ha;generalize hv:ρ a=va at ha;cases ha with|yld _ m hm=>
    rw[show execOp ρ ⟨dst,.nilCheck a,ty,pos,after,guard⟩=pure (.value (ρ a)) by simp only[execOp,hv],hv];exact .pure' h (.yld _ m hm)
  ·cases he
 |binOp op t a b yt=>
  simp only[evOp]at he;exact(Runs.opt h he λr hr=>qtk hc a b hr (hx a) (hx b)).v
 |unOp op t a=>
  simp only[evOp]at he;exact(Runs.opt h he λr hr=>qvl hr (hx a)).v
 |convert s d a=>exact(qme hc h he (hx a)).v
 |makeFunc f first caps=>
  simp only[evOp]at he;cases he;refine(Runs.pure' h ⟨.func f (first.map ρ) (caps.map ρ),by simp[Instr.makeFunc],?_⟩).v;have:=Rep.fn (C:=C) (μ:=μ) f (first.toList.map x) (caps.toList.map x) (first.toList.map ρ) (caps.toList.map ρ) (by simp) (by simp) (qiT hx _) (qiT hx _);have ea:∀a:Array Operand,(a.toList.map ρ).toArray=a.map ρ:=λa=>by rw[←Array.toList_map,Array.toArray_toList]
  rw[ea,ea]at this;exact this
 |makeSlice t l c=>exact(qps hc h he (hx l) (hx c)).v
 |slice t a lo hi mx=>
  simp only[evOp]at he;exact(Runs.opt h he λr hr=>qpr hc h hx lo hi mx hr (hx a)).v
 |fieldAddr t a f=>
  simp only[evOp]at he;exact(Runs.opt h he λr hr=>qi9 hc hr (hx a)).v
 |field t a f=>
  simp only[evOp]at he;exact(Runs.opt h he λr hr=>qpv hc hr (hx a)).v
 |indexAddr t a i=>
  simp only[evOp]at he;exact(Runs.opt h he λr hr=>qi8 hc h hr (hx a).unwr (hx i)).v
 |index t a i=>
  simp only[evOp]at he;exact(Runs.opt h he λr hr=>qpu hc hr (hx a) (hx i)).v
 |extract t i=>
  simp only[evOp]at he;split at he
  case h_2=>cases he
  rename_i vs hxt;have ha:=hx t;rw[hxt]at ha;generalize hv:ρ t=va at ha;refine(Runs.opt h he λr hr=>?_).v;cases ha with
  |tup _ us hl hr'=>
   have hlt:i<us.length:=by rw[←hl];exact(qB5.1 hr).1
   exact⟨us[i],by simp[Instr.extract,hv,hlt],hr' i r _ hr (qB3 hlt)⟩
 |call c=>exact qnc hc h hx he
 |makeMap t rv=>exact(qm3 (ty:=ty) hc h hx he).v
 |lookup t a k ok=>
  simp only[evOp]at he;exact(Runs.opt h he λr hr=>qnf hc h hr (hx a) (hx k)).v
 |mapUpdate t m k v=>
  simp only[evOp]at he;obtain⟨H1,h1,h2⟩:=qCb.1 he;cases h2;obtain⟨w',e2,e3,e4⟩:=qfx hc h h1 (hx m) (hx k) (hx v);exact⟨.skip,w',C,μ,by simp[execOp,e2],.inr ⟨rfl,rfl⟩,e3,e4 _ (qCa _)⟩
 |insert t m k v=>
  simp only[evOp]at he;obtain⟨H1,h1,h2⟩:=qCb.1 he;cases h2;obtain⟨w',e2,e3,e4⟩:=qfx hc h h1 (hx m) (hx k) (hx v);exact⟨.skip,w',C,μ,by simp[execOp,e2],.inr ⟨rfl,rfl⟩,e3,e4 _ (qCa _)⟩
 |_=>simp only[evOp]at he;cases he
variable {C C' C1 C2 : qu} {μ μ' μ1 : MMap} {H H' H1 : AH} {w w' w1 : World} {P : Program}
theorem qo1[Lent](h:Wld C μ H w)(id:Nat):∃C',(∀b o v,C b o=some v->C' b o=some v)∧Wld C' μ (vQ H id) w∧(∀k,k<=H.length->Ext k C μ H w C' μ (vQ H id) w):=by
 unfold vQ;split
 ·rename_i sz rs hid;exact h.freeze hid
 ·exact⟨C,λ_ _ _ h=>h,h,λk hk=>Ext.refl hk⟩
theorem qkA(H:AH)(id:Nat):(vQ H id).length=H.length:=by
 unfold vQ;split<;>simp
theorem qbK(ids:List Nat):∀H:AH,(qQ ids H).length=H.length:=by
 induction ids with
 |nil=>intro H;rfl
 |cons i l ih=>intro H;show(qQ l (vQ H i)).length=_;rw[ih,qkA]
theorem xr[Lent]:∀(ids:List Nat) {C:qu} {H:AH},Wld C μ H w->∃C',(∀b o v,C b o=some v->C' b o=some v)∧Wld C' μ (qQ ids H) w∧(∀k,k<=H.length->Ext k C μ H w C' μ (qQ ids H) w)
 |[],C,H,h=>⟨C,λ_ _ _ h=>h,h,λk hk=>Ext.refl hk⟩
 |i::l,C,H,h=>by
  obtain⟨C1,a1,a2,a3⟩:=qo1 h i;obtain⟨C2,b1,b2,b3⟩:=xr l a2;exact⟨C2,λb o v hh=>b1 b o v (a1 b o v hh),b2,λk hk=>(a3 k hk).trans (b3 k (by rw[qkA];exact hk)) (qCa _)⟩
theorem qqy{b:ABlk}{l:AH}{i:Nat}(h:i≠0):∃l',vQ (b::l) i=b::l':=by
 unfold vQ;split
 ·cases i with
  |zero=>exact absurd rfl h
  |succ i=>exact⟨_,rfl⟩
 ·exact⟨l,rfl⟩
theorem qc0{b:ABlk}:∀(ids:List Nat) {l:AH},qbs ids=true->∃l',qQ ids (b::l)=b::l'
 |[],l,_=>⟨l,rfl⟩
 |i::ids,l,h=>by
  rw[qbs,qB2]at h;have hi:i≠0:=by
   intro e;subst e;simp at h
  obtain⟨l1,h1⟩:=qqy (b:=b) (l:=l) hi;have:qQ (i::ids) (b::l)=qQ ids (vQ (b::l) i):=rfl;rw[this,h1];exact qc0 ids h.2
theorem qqB{id i sz:Nat}{d:Bool}{rs:List (List AV)}(h:H[id]? =some (.froz d sz rs)):(vQ H i)[id]? =some (.froz d sz rs):=by
 unfold vQ;split
 ·rename_i s r hi;rw[qCn];split
  ·rename_i e;subst e;rw[h]at hi;cases hi
  ·exact h
 ·exact h
theorem qgP{id sz:Nat}{d:Bool}{rs:List (List AV)}:∀(ids:List Nat) {H:AH},H[id]? =some (.froz d sz rs)->(qQ ids H)[id]? =some (.froz d sz rs)
 |[],_,h=>h
 |_::l,_,h=>qgP l (qqB h)
theorem qqA{id i:Nat}:q5 (vQ H i) id=q5 H id:=by
 unfold vQ;split
 ·rename_i s r hi;unfold q5;rw[qCn]
  by_cases e:i=id
  ·subst e;have:=(qB5.1 hi).1;rw[qCM rfl,qCM this,hi]
  ·rw[qCN e]
 ·rfl
theorem qqC{id i:Nat}:xx (vQ H i) id=xx H id:=by
 unfold vQ;split
 ·rename_i s r hi;unfold xx;rw[qCn]
  by_cases e:i=id
  ·subst e;have:=(qB5.1 hi).1;rw[qCM rfl,qCM this,hi]
  ·rw[qCN e]
 ·rfl
theorem qqz{id sz:Nat}{rs:List (List AV)}(h:q5 H id=some (sz,rs)):(vQ H id)[id]? =some (.froz (xx H id) sz rs):=by
 unfold q5 at h;unfold vQ xx;split at h
 ·rename_i s r hi;cases h;have:=(qB5.1 hi).1;simp only[hi];rw[qCn,qCM rfl,qCM this]
 ·rename_i s r hi;cases h;simp only[hi]
 ·cases h
theorem qdK{id sz:Nat}{rs:List (List AV)}:∀{ids:List Nat} {H:AH},q5 H id=some (sz,rs)->id∈ids->(qQ ids H)[id]? =some (.froz (xx H id) sz rs)
 |[],_,_,hi=>by cases hi
 |i::l,H,h,hi=>by
  by_cases e:id=i
  ·subst e;exact qgP l (qqz h)
  ·show(qQ l (vQ H i))[id]? =_;rw[←qqC (i:=i)];exact qdK (by rw[qqA];exact h) ((qCB.1 hi).resolve_left e)
theorem qtQ[Lent]{m:MI}{sz off len cap:Nat}{rs:List (List AV)}{a:Addr}(hf:qdc C μ m sz rs)(hle:off+len<=rs.length)(hl:len<=cap)(ha:cap≠0->a=⟨m.block,m.base+off*m.sz,none⟩∧(off+cap)*m.sz<=m.size)(hfr:qI 0 ((rs.drop off).take len)=true):
  Rep C μ (.sl ((rs.drop off).take len)) (.slice (some a) len cap):=by
 obtain⟨hsz,_,hrows⟩:=hf;have hlen:((rs.drop off).take len).length=len:=by simp;omega
 have get:∀(i:Nat) row,((rs.drop off).take len)[i]? =some row->i<len∧rs[off+i]? =some row:=λi row h=>vA h
 have addr:∀(i:Nat) row,((rs.drop off).take len)[i]? =some row->a=⟨m.block,m.base+off*m.sz,none⟩:=λi row h=>(ha (by have:=(get i row h).1;omega)).1
 have cell:∀(i j:Nat) row x,((rs.drop off).take len)[i]? =some row->row[j]? =some x->x.isCell=true∧∃v,C a.block (a.off+i*sz+j)=some v∧Rep C μ x v:=by
  intro i j row x hi hj;obtain⟨_,hr⟩:=get i row hi;obtain⟨e1,v,e2,e3⟩:=(hrows _ row hr).2 j x hj;refine⟨e1,v,?_,e3⟩;rw[addr i row hi];rw[←e2];simp only
  congr 1
  rw[hsz,Nat.add_mul];omega
 have:=Rep.sl (C:=C) (μ:=μ) ((rs.drop off).take len) a cap sz (λi j=>(C a.block (a.off+i*sz+j)).getD undef)
  (λhne=>by
   cases hx:(rs.drop off).take len with
   |nil=>exact absurd hx hne
   |cons r l=>rw[addr 0 r (by rw[hx];rfl)])
  (λi row hi=>(hrows _ row (get i row hi).2).1)
  (λi j row x hi hj=>by obtain⟨_,v,e2,_⟩:=cell i j row x hi hj;rw[e2];rfl)
  (λi j row x hi hj=>by obtain⟨_,v,e2,e3⟩:=cell i j row x hi hj;rw[e2];exact e3)
  (λi j row x hi hj=>(cell i j row x hi hj).1)
  (by rw[hlen];exact hl) hfr
 rw[hlen]at this;exact this
def xZ[Lent](C:qu)(μ:MMap)(H:AH)(ids:List Nat):Prop:=∀id sz rs,id∈ids->q5 H id=some (sz,rs)->(∀m,μ id=some m->qdc C μ m sz rs)∧(xx H id=true->qI 0 rs=true)
theorem xZ.of[Lent]{ids:List Nat}(h:Wld C μ (qQ ids H) w):xZ C μ H ids:=λid sz rs hi hb=>by
 exact⟨(h.froz id _ sz rs (qdK hb hi)).2,h.free.get (qdK hb hi)⟩
theorem Rep.frz1[Lent]{ids:List Nat}{a:AV}{v:Value}(hf:xZ C μ H ids)(h:Rep C μ a v):Rep C μ (a.frz1 ids H) v:=by
 cases a with
 |ms id off len=>
  simp only[AV.frz1];split
  ·rename_i sz rs hb;split
   ·rename_i hc;rw[qB2,qB2,qCz,vC,qCI]at hc;obtain⟨hfr,hfr2⟩:=hf id sz rs hc.1.1 hb;cases h with
    |msN _ _=>simpa using Rep.slNil
    |ms _ _ _ cap ad m' hm' hl ha=>
     exact qtQ (hfr m' hm') hc.1.2 hl ha (hc.2.elim (λhd=>yr (zK (hfr2 hd))) (λh=>h))
   ·exact h
  ·exact h
 |_=>exact h
theorem Rep.frzA[Lent]{ids:List Nat}{a:AV}{v:Value}(hf:xZ C μ H ids)(h:Rep C μ a v):Rep C μ (a.frz ids H) v:=by
 cases a with
 |agg cs=>
  cases h with
  |agg _ vs hl hr=>
   exact .agg _ vs (by simpa using hl) (λi a v h1 h2=>by
    obtain⟨b,hb,rfl⟩:=qz h1;exact(hr i b v hb h2).frz1 hf)
 |tup cs=>
  cases h with
  |tup _ vs hl hr=>
   exact .tup _ vs (by simpa using hl) (λi a v h1 h2=>by
    obtain⟨b,hb,rfl⟩:=qz h1;exact(hr i b v hb h2).frz1 hf)
 |_=>exact Rep.frz1 hf h
theorem Rep0.rep[Lent]{D:qu}{a:AV}{v:Value}(hD:∀b o v,D b o=some v->C b o=some v)(h:Rep0 D a v):Rep C μ a v:=by
 induction h with
 |int k n=>exact .int k n
 |bool b=>exact .bool b
 |str s=>exact .str s
 |nilS=>exact .nilS
 |slNil=>exact .slNil
 |em a cap=>exact .em a cap
 |sl rows a cap sz vals hs hsz hc _ hcell hcap hfree ih=>exact .sl rows a cap sz vals hs hsz (λi j row x h1 h2=>hD _ _ _ (hc i j row x h1 h2)) ih hcell hcap hfree
def RegC(C:qu)(μ:MMap)(H:AH):Prop:=∀(id:Nat) m,H[id]? =some .reg->μ id=some m->∀b o v,m.D b o=some v->C b o=some v
open Classical in
def yz (C:qu) (μ:MMap) (H:AH) (w:World):qu:=λb o=>
 match C b o with
 |some v=>some v
 |none=>if ∃(id:Nat) (m:MI),H[id]? =some .reg∧μ id=some m∧m.D b o≠none then w.cell? ⟨b,o,none⟩else none
theorem qjx{b o:Nat}{v:Value}(h:C b o=some v):yz C μ H w b o=some v:=by unfold yz;rw[h]
theorem qnL(hc:∀b o v,C b o=some v->w.cell? ⟨b,o,none⟩=some v){b o:Nat}{v:Value}(h:yz C μ H w b o=some v):w.cell? ⟨b,o,none⟩=some v:=by
 unfold yz at h;split at h
 ·rename_i u hu;cases h;exact hc _ _ _ hu
 ·split at h
  ·exact h
  ·cases h
theorem qpK[Lent](h:Wld C μ H w)(hc:∀b o v,C1 b o=some v->w.cell? ⟨b,o,none⟩=some v):RegC (yz C1 μ H w) μ H:=by
 intro id m hi hm b o v hd;have hreg:=(h.liveM hi rfl hm).2.2;have hcell:=(hreg b o v hd).1;unfold yz;split
 ·rename_i u hu;rw[hc _ _ _ hu]at hcell;exact hcell
 ·rw[qCM ⟨id,m,hi,hm,by rw[hd];simp⟩];exact hcell
theorem qpJ[Lent](h:Wld C μ H w){b:Nat}(hc:∀o v,C1 b o=some v->w.frozen? ⟨b,o,none⟩=false){o:Nat}{v:Value}(hh:yz C1 μ H w b o=some v):w.frozen? ⟨b,o,none⟩=false:=by
 unfold yz at hh;split at hh
 ·rename_i u hu;exact hc _ _ hu
 ·split at hh
  ·rename_i hex;obtain⟨id,m,hi,hm,hd⟩:=hex;cases hd':m.D b o with
   |none=>exact absurd hd' hd
   |some u=>exact((h.liveM hi rfl hm).2.2 b o u hd').2
  ·cases hh
theorem xZ.mono[Lent]{ids:List Nat}(hC:∀b o v,C b o=some v->C' b o=some v)(h:xZ C μ H ids):xZ C' μ H ids:=λid sz rs hi hb=>by
 obtain⟨h1,h2⟩:=h id sz rs hi hb;refine⟨λm hm=>?_,h2⟩;obtain⟨a1,a2,a3⟩:=h1 m hm;exact⟨a1,a2,a3.mono hC (λ_ _ h=>h) (λi j row x hi hj=>by
  obtain⟨_,v,hv,_⟩:=(a3 i row hi).2 j x hj;exact(hC _ _ _ hv).trans hv.symm)⟩
theorem Rep.snap1[Lent]{ids:List Nat}(hrg:RegC C μ H)(hid:∀id,id<H.length->id∈ids){a:AV}{v:Value}(hf:xZ C μ H ids)(h:Rep C μ a v):Rep C μ (a.snap1 H) v:=by
 have hlt:∀id sz rs,q5 H id=some (sz,rs)->id∈ids:=by
  intro id sz rs hb;refine hid id ?_;unfold q5 at hb;cases hh:H[id]? with
  |none=>rw[hh]at hb;cases hb
  |some b=>exact(qB5.1 hh).1
 cases a with
 |ms id off len=>
  simp only[AV.snap1];exact Rep.frz1 (ids:=[id]) (λid' sz rs hi hb=>hf id' sz rs (hlt _ _ _ hb) hb) h
 |ptr id r off=>
  simp only[AV.snap1];split
  ·rename_i sz rs hb;split
   ·rename_i row hrow;cases h with
    |ptr _ _ _ m hm=>
     obtain⟨hsz,_,hrows⟩:=(hf id sz rs (hlt _ _ _ hb) hb).1 m hm;have cell:∀(j:Nat) x,row[j]? =some x->∃v,C m.block (m.base+r*m.sz+j)=some v∧Rep C μ x v:=by
      intro j x hj;obtain⟨_,v,e2,e3⟩:=(hrows r row hrow).2 j x hj;refine⟨v,?_,e3⟩;rw[←e2,hsz];simp only
      congr 1;omega
     have cell:∀(j:Nat) x,(qkU row)[j]? =some x->∃v,C m.block (m.base+r*m.sz+j)=some v∧Rep C μ x v:=by
      intro j x hj;unfold qkU at hj;split at hj
      ·exact cell j x hj
      ·obtain⟨y,hy,rfl⟩:=qz hj;obtain⟨v,e2,e3⟩:=cell j y hy;refine⟨v,e2,?_⟩;unfold AV.data1;split
       ·exact e3
       ·exact .junk v
     exact .cptr (qkU row) off m.block (m.base+r*m.sz) (λj=>(C m.block (m.base+r*m.sz+j)).getD undef)
      (λj x hj=>by obtain⟨v,e2,_⟩:=cell j x hj;rw[e2];rfl) (λj x hj=>by obtain⟨v,e2,e3⟩:=cell j x hj;rw[e2];exact e3)
   ·exact h
  ·exact h
 |rsl id rows=>
  simp only[AV.snap1];split
  ·rename_i hi;cases h with
   |rsl _ _ _ D hD h0=>
    by_cases hne:rows=[]
    ·subst hne;exact h0.ofEmp
    ·obtain⟨m,hm,rfl⟩:=hD hne;exact h0.rep (hrg id m hi hm)
  ·exact h
 |_=>exact h
theorem Rep.snapA[Lent]{ids:List Nat}(hrg:RegC C μ H)(hid:∀id,id<H.length->id∈ids){a:AV}{v:Value}(hf:xZ C μ H ids)(h:Rep C μ a v):Rep C μ (a.snap H) v:=by
 cases a with
 |agg cs=>
  cases h with
  |agg _ vs hl hr=>
   exact .agg _ vs (by simpa using hl) (λi a v h1 h2=>by
    obtain⟨b,hb,rfl⟩:=qz h1;exact(hr i b v hb h2).snap1 hrg hid hf)
 |fn f p q=>
  cases h with
  |fn _ _ _ vf vc hl1 hl2 h1 h2=>
   exact .fn f _ _ vf vc (by simpa using hl1) (by simpa using hl2) (λi a v e1 e2=>by
    obtain⟨b,hb,rfl⟩:=qz e1;exact(h1 i b v hb e2).snap1 hrg hid hf) (λi a v e1 e2=>by
    obtain⟨b,hb,rfl⟩:=qz e1;exact(h2 i b v hb e2).snap1 hrg hid hf)
 |_=>exact Rep.snap1 hrg hid hf h
theorem Rep.fgA[Lent]{a:AV}{v:Value}(h:Rep C μ a v):Rep C μ a.fg v:=by
 cases a with
 |agg cs=>cases h with|agg _ vs hl hr=>exact .agg _ vs (by simpa using hl) (λi a v h1 h2=>by obtain⟨b,hb,rfl⟩:=qz h1;exact(hr i b v hb h2).fg1)
 |tup cs=>cases h with|tup _ vs hl hr=>exact .tup _ vs (by simpa using hl) (λi a v h1 h2=>by obtain⟨b,hb,rfl⟩:=qz h1;exact(hr i b v hb h2).fg1)
 |_=>exact h.fg1
theorem qy.fg[Lent]{args:List AV}{vs:Array Value}(h:qy C μ args vs):qy C μ (args.map AV.fg) vs:=⟨by simpa using h.1,λi a v h1 h2=>by
 obtain⟨b,hb,rfl⟩:=qz h1;exact(h.2 i b v hb h2).fgA⟩
theorem Rep.scalar1[Lent]{a:AV}{v:Value}(hs:a.scalar1=true)(h:Rep C μ a v):Rep C' μ' a v:=by
 cases h with
 |int k n=>exact .int k n
 |bool b=>exact .bool b
 |str s=>exact .str s
 |nilS=>exact .nilS
 |nilP=>exact .nilP
 |_=>simp[AV.scalar1]at hs
theorem qik{l:List AV}(h:qhu l=true){i:Nat}{a:AV}(ha:l[i]? =some a):a.scalar1=true:=by
 induction l generalizing i with
 |nil=>simp at ha
 |cons b l ih=>
  rw[qhu,qB2]at h;cases i with
  |zero=>simp at ha;subst ha;exact h.1
  |succ i=>exact ih h.2 (by simpa using ha)
theorem Rep.scalarA[Lent]{a:AV}{v:Value}(hs:a.scalar=true)(h:Rep C μ a v):Rep C' μ' a v:=by
 cases a with
 |agg cs=>
  cases h with|agg _ vs hl hr=>exact .agg cs vs hl (λi a v h1 h2=>(hr i a v h1 h2).scalar1 (qik (by simpa [AV.scalar]using hs) h1))
 |tup cs=>
  cases h with|tup _ vs hl hr=>exact .tup cs vs hl (λi a v h1 h2=>(hr i a v h1 h2).scalar1 (qik (by simpa [AV.scalar]using hs) h1))
 |_=>exact Rep.scalar1 (by simpa [AV.scalar]using hs) h
theorem zO{b:Nat}:¬Live [] μ b:=by
 rintro⟨id,blk,m,h,_⟩;simp at h
theorem Wld.nil[Lent](h:Wld C μ H w):Wld C (λ_=>none) [] w where
 cl:=h.cl
 dom:=λid m hm=>by cases hm
 res:=λid hi=>rfl
 live:=λid blk h1=>by simp at h1
 froz:=λid d sz rs h1=>by simp at h1
 inj:=λi i' b b' m m' h1=>by simp at h1
 free:=qaj.nil
 lnt:=h.lnt
theorem Wld.back[Lent](h:Wld C μ H w)(hx:Ext 0 C (λ_=>none) [] w C1 μ1 H1 w1)(h1:Wld C1 μ1 H1 w1):Wld C1 μ H w1∧∀k,k<=H.length->Ext k C μ H w C1 μ H w1:=by
 have hfr:∀b,b<w.heap.size->w1.heap[b]? =w.heap[b]? ∧C1 b=C b:=λb hb=>⟨(hx.fr b hb zO).1,(hx.fr b hb zO).2.2⟩
 refine⟨⟨h1.cl,h.dom,h.res,λid blk e1 e2=>?_,λid d sz rs e1=>?_,h.inj,h.free,h1.lnt⟩,λk hk=>⟨hx.os,hx.tape,hx.output,hx.size,hx.cl,λ_ _ _ h=>⟨_,h,.refl _⟩,λb hb hnl=>⟨(hfr b hb).1,hnl,(hfr b hb).2⟩,hk⟩⟩
 ·refine⟨(h.live id blk e1 e2).1,λm h3=>?_⟩;obtain⟨h4,h6⟩:=(h.live id blk e1 e2).2 m h3;exact⟨λb hb=>⟨Nat.lt_of_lt_of_le (h4 b hb).1 hx.size,λo=>by rw[(hfr _ (h4 b hb).1).2];exact(h4 b hb).2.1 o,(h4 b hb).2.2⟩,h6.mono hx.cl (λ_ _ h=>h) (λb hb=>(hfr _ (h4 b hb).1).1)⟩
 ·refine⟨(h.froz id d sz rs e1).1,λm e2=>?_⟩;obtain⟨e3,e4,e5⟩:=(h.froz id d sz rs e1).2 m e2;refine⟨e3,e4,e5.mono hx.cl (λ_ _ h=>h) (λi j row x hi hj=>?_)⟩;obtain⟨_,v,hv,_⟩:=(e5 i row hi).2 j x hj;exact(hx.cl _ _ _ hv).trans hv.symm
def vM(P:Program)(s:Sem Next)(w:World)(R:Value->World->Prop):Prop:=
 match s.run P w with
 | .ok (.value v) w'=>R v w'
 | .ok .skip w'=>R undef w'
 | .ok (.enter f args) w'=>CallsIn Fence.wide 0 P f args w' λe w''=>∃v,e= .returned v∧R v w''
 | .ok (.round l f t al bd) w'=>RoundIn Fence.wide 0 P l f t al bd w' λe w''=>∃v,e= .returned v∧R v w''
 |_=>False
theorem vM.mono{s:Sem Next}{R R':Value->World->Prop}(h:vM P s w R)(hr:∀v w',R v w'->R' v w'):vM P s w R':=by
 unfold vM at *;generalize s.run P w=x at *;cases x with
 |ok n w'=>
  cases n<;>simp only at h⊢<;>first|exact hr _ _ h|exact h.elim|skip
  ·exact h.mono λe w'' ⟨v,h1,h2⟩=>⟨v,h1,hr _ _ h2⟩
  ·exact h.mono λe w'' ⟨v,h1,h2⟩=>⟨v,h1,hr _ _ h2⟩
 |halt _ _=>exact h
def qtl(μ:MMap)(t:Tgt)(vs:Array Value)(s:Sem Next):Prop:=
 match t with
 | .f f=>s=callFunc f vs
 | .y id=>∃m,μ id=some m∧s=Instr.yield m.block vs
def xJ[Lent](C:qu)(μ:MMap)(H:AH)(w:World)(r:AV)(H':AH)(v:Value)(w':World):Prop:=∃C' μ',Rep C' μ' r v∧Wld C' μ' H' w'∧Ext H.length C μ H w C' μ' H' w'
def qaq[Lent](cfg:Cfg)(cf:Orac):Prop:=∀t args H r H',cf t args H=some (r,H')->∀C μ w vs s,qy C μ args vs->Wld C μ H w->qtl μ t vs s->vM cfg.P s w (xJ C μ H w r H')
theorem qy.free[Lent]{al:List AV}{vs:Array Value}(μ':MMap)(h:qy C μ al vs)(hr:qw 0 al=true):qy C μ' al vs:=⟨h.1,λi a v h1 h2=>(h.2 i a v h1 h2).free μ' (xm hr h1)⟩
theorem Wld.one[Lent](h:Wld C μ H w){d0:Bool}{id sz:Nat}{rs:List (List AV)}(hfree:qI 0 rs=true)(hi:H[id]? =some (.rows d0 sz rs)):Wld C (λk=>if k=0 then μ id else none) [.rows true sz rs] w:=by
 have only:∀(k:Nat) b,([.rows true sz rs]:AH)[k]? =some b->k=0∧b= .rows true sz rs:=λk b hk=>by
  cases k with
  |zero=>simp at hk;exact⟨rfl,hk.symm⟩
  |succ k=>simp at hk
 refine⟨h.cl,λk m hk=>?_,λk hk=>?_,λk b hk hb=>?_,λk d sz rs hk=>?_,λi i' b b' m m' e1 e2 _ _ _ _ _ _ _=>?_,λk b hk=>?_,h.lnt⟩
 ·split at hk
  ·rename_i e;subst e;simp
  ·cases hk
 ·have:=(only k _ hk).2;cases this
 ·obtain⟨rfl,rfl⟩:=only k b hk;simp only[if_true];refine⟨λhn=>?_,λm hm=>?_⟩
  ·have:=(h.live id _ hi rfl).1 hn;cases rs<;>first|rfl|cases this
  ·obtain⟨-,-,h4,h5,h6,h7⟩:=h.liveM hi rfl hm;exact⟨h.liveH hi rfl hm,h4,h5,h6.free _ hfree,h7⟩
 ·have:=(only k _ hk).2;cases this
 ·rw[(only i b e1).1,(only i' b' e2).1]
 ·obtain⟨rfl,rfl⟩:=only k b hk;exact λ_=>hfree
theorem Wld.putBack[Lent](h:Wld C μ H w){d0:Bool}{id sz:Nat}{rs rs':List (List AV)}{l:AH}(hi:H[id]? =some (.rows d0 sz rs)){C2:qu}{μ2:MMap}{w1:World}(h2:Wld C2 μ2 (.rows true sz rs'::l) w1)(hx:Ext 1 C (λk=>if k=0 then μ id else none) [.rows true sz rs] w C2 μ2 (.rows true sz rs'::l) w1):
  Wld C2 (λi=>if i=id then μ2 0 else μ i) (H.set id (.rows true sz rs')) w1∧Ext H.length C μ H w C2 (λi=>if i=id then μ2 0 else μ i) (H.set id (.rows true sz rs')) w1:=by
 have h20:(ABlk.rows true sz rs'::l)[0]? =some (.rows true sz rs'):=rfl;have hfree:qI 0 rs'=true:=h2.free.get (id:=0) h20 rfl;have hmu:MLe μ (λi=>if i=id then μ2 0 else μ i):=by
  intro i m hm
  by_cases e:i=id
  ·subst e;simp only[↓reduceIte];exact hx.mu 0 m (by omega) (by simpa using hm)
  ·simp only[qCN e];exact⟨m,hm,.refl m⟩
 have nl:∀b,(∀m,μ id=some m->¬m.has b)->¬Live [.rows true sz rs] (λk=>if k=0 then μ id else none) b:=by
  rintro b hb ⟨i,bi,mi,e1,_,e3,e4⟩;simp only at e3;split at e3
  ·exact hb _ e3 e4
  ·cases e3
 have hlen:id<H.length:=(qB5.1 hi).1;have aux:∀(j:Nat) bj,(H.set id (.rows true sz rs'))[j]? =some bj->(j=id∧bj= .rows true sz rs')∨(j≠id∧H[j]? =some bj):=by
  intro j bj hj;rw[qCn]at hj;split at hj
  ·rename_i e;subst e
   try rw[qCM hlen]at hj
   cases hj;exact .inl ⟨rfl,rfl⟩
  ·rename_i e;exact .inr ⟨λe'=>e e'.symm,hj⟩
 have apart:∀(j:Nat) bj mj,j≠id->H[j]? =some bj->bj.live=true->μ j=some mj->∀x,mj.has x->x<w.heap.size∧¬Live [.rows true sz rs] (λk=>if k=0 then μ id else none) x:=by
  intro j bj mj hne e hb f1 x hxj;exact⟨(h.liveH e hb f1 x hxj).1,nl _ λm hm he=>hne (h.inj j id bj _ mj m e hi hb rfl f1 hm x hxj he)⟩
 refine⟨⟨h2.cl,λj mj hj=>?_,λj hj=>?_,λj b hj hb=>?_,λj d sz rs hj=>?_,λi i' b b' m1 m2 e1 e2 e3 e4 e5 e6 x e7 e8=>?_,?_,h2.lnt⟩,
  ⟨hx.os,hx.tape,hx.output,hx.size,hx.cl,λi m _ hm=>hmu i m hm,λb hb hnl=>?_,by simp⟩⟩
 ·simp only[List.length_set]
  by_cases e:j=id
  ·subst e;exact hlen
  ·rw[qCN e]at hj;exact h.dom j mj hj
 ·rcases aux j _ hj with⟨_,e⟩|⟨hne,e⟩
  ·cases e
  ·simp only[qCN hne];exact h.res j e
 ·rcases aux j b hj with⟨rfl,rfl⟩|⟨hne,e⟩
  ·simp only[if_true];refine⟨(h2.live 0 _ h20 rfl).1,λm hm=>?_⟩;obtain⟨-,-,g4,g5,g6,g7⟩:=h2.liveM h20 rfl hm;exact⟨h2.liveH h20 rfl hm,g4,g5,g6.free _ hfree,g7⟩
  ·simp only[qCN hne];refine⟨(h.live j b e hb).1,λmj f1=>?_⟩;obtain⟨f2,f4⟩:=(h.live j b e hb).2 mj f1;have q:=λx (hxj:mj.has x)=>hx.fr x (f2 x hxj).1 (apart j b mj hne e hb f1 x hxj).2
   exact⟨λx hxj=>⟨Nat.lt_of_lt_of_le (f2 x hxj).1 hx.size,λo=>by rw[(q x hxj).2.2];exact(f2 x hxj).2.1 o,(f2 x hxj).2.2⟩,f4.monoG hx.cl hmu (λx hxj=>(q x hxj).1)⟩
 ·rcases aux j _ hj with⟨_,e⟩|⟨hne,e⟩
  ·cases e
  ·simp only[qCN hne];refine⟨(h.froz j d sz rs e).1,λmj f1=>?_⟩;obtain⟨f2,f3,f4⟩:=(h.froz j d sz rs e).2 mj f1;exact⟨f2,f3,f4.monoG hx.cl hmu (λi j row x hi' hj'=>by
    obtain⟨_,v,hv,_⟩:=(f4 i row hi').2 j x hj';exact(hx.cl _ _ _ hv).trans hv.symm)⟩
 ·have cross:∀(j:Nat) bj mj m0,j≠id->H[j]? =some bj->bj.live=true->μ j=some mj->μ2 0=some m0->∀x,m0.has x->¬mj.has x:=by
   intro j bj mj m0 hne e hb f1 hm0 x hx0 hxj;obtain⟨f2,f3⟩:=apart j bj mj hne e hb f1 x hxj;exact(hx.fr x f2 f3).2.1 ⟨0,_,m0,h20,rfl,hm0,hx0⟩
  rcases aux i b e1 with⟨rfl,rfl⟩|⟨hne,e⟩<;>rcases aux i' b' e2 with⟨rfl,rfl⟩|⟨hne',e'⟩
  ·rfl
  ·rw[qCM rfl]at e5;rw[qCN hne']at e6;exact(cross i' b' m2 m1 hne' e' e4 e6 e5 x e7 e8).elim
  ·rw[qCN hne]at e5;rw[qCM rfl]at e6;exact(cross i b m1 m2 hne e e3 e5 e6 x e8 e7).elim
  ·rw[qCN hne]at e5;rw[qCN hne']at e6;exact h.inj i i' b b' m1 m2 e e' e3 e4 e5 e6 x e7 e8
 ·exact h.free.set (b:=.rows true sz rs') (λ_=>hfree)
 ·obtain⟨q1,q2,q3⟩:=hx.fr b hb (nl b λm hm e=>hnl ⟨id,_,m,hi,rfl,hm,e⟩);refine⟨q1,λhl=>?_,q3⟩;obtain⟨j,bj,mj,e1,e2,e3,e5⟩:=hl;simp only at e3;rcases aux j bj e1 with⟨rfl,rfl⟩|⟨hne,e⟩
  ·rw[qCM rfl]at e3;exact q2 ⟨0,_,mj,h20,rfl,e3,e5⟩
  ·rw[qCN hne]at e3;exact hnl ⟨j,bj,mj,e,e2,e3,e5⟩
theorem Wld.oneS [Lent] (h : Wld C μ H w) {d0 : Bool} {id sz : Nat} {rs : List (List AV)} (hin : ∀ x ∈ yu 0 rs, x ∈ [id]) (hi : H[id]? = some (.rows d0 sz rs)) :
    Wld C (fun k => if k = 0 then μ id else none) [.rows false sz (renR (fun _ => 0) rs)] w := by
  have only : ∀ (k : Nat) b, ([.rows false sz (renR (fun _ => 0) rs)] : AH)[k]? = some b → k = 0 ∧ b = .rows false sz (renR (fun _ => 0) rs) := fun k b hk => by
    cases k with
    | zero => simp at hk; exact ⟨rfl, hk.symm⟩
    | succ k => simp at hk
  refine ⟨h.cl, fun k m hk => ?_, fun k hk => ?_, fun k b hk hb => ?_, fun k d sz rs hk => ?_, fun i i' b b' m m' e1 e2 _ _ _ _ _ _ _ => ?_, fun k b hk => ?_, h.lnt⟩
  · split at hk
    · rename_i e; subst e; simp
    · cases hk
  · have := (only k _ hk).2; cases this
  · obtain ⟨rfl, rfl⟩ := only k b hk
    simp only [if_true]
    refine ⟨fun hn => ?_, fun m hm => ?_⟩
    · have := (h.live id _ hi rfl).1 hn
      cases rs <;> first | rfl | cases this
    · obtain ⟨-, -, h4, h5, h6, h7⟩ := h.liveM hi rfl hm
      refine ⟨h.liveH hi rfl hm, h4, by rw [qcR, qCH]; exact h5, ?_, h7⟩
      refine h6.renm (k := 0) (L := [id]) (fun x mx hx hmx => ?_) hin
      have : x = id := by rcases hx with hx | hx; · omega
                          · simpa using hx
      subst this
      simpa using hmx
  · have := (only k _ hk).2; cases this
  · rw [(only i b e1).1, (only i' b' e2).1]
  · obtain ⟨rfl, rfl⟩ := only k b hk
    exact fun hd => by cases hd
theorem Wld.putBackS [Lent] (h : Wld C μ H w) {d0 : Bool} {id sz : Nat} {rs rs0 rs' : List (List AV)} {l : AH} (hi : H[id]? = some (.rows d0 sz rs)) {C2 : qu} {μ2 : MMap} {w1 : World} (hin : ∀ x ∈ yu 0 rs', x ∈ [0])
    (h2 : Wld C2 μ2 (.rows false sz rs' :: l) w1) (hx : Ext 1 C (fun k => if k = 0 then μ id else none) [.rows false sz rs0] w C2 μ2 (.rows false sz rs' :: l) w1) :
    Wld C2 (fun i => if i = id then μ2 0 else μ i) (H.set id (.rows false sz (renR (fun _ => id) rs'))) w1 ∧ Ext H.length C μ H w C2 (fun i => if i = id then μ2 0 else μ i) (H.set id (.rows false sz (renR (fun _ => id) rs'))) w1 := by
  have h20 : (ABlk.rows false sz rs' :: l)[0]? = some (.rows false sz rs') := rfl
  have hmu : MLe μ (fun i => if i = id then μ2 0 else μ i) := by
    intro i m hm
    by_cases e : i = id
    · subst e; simp only [↓reduceIte]; exact hx.mu 0 m (by omega) (by simpa using hm)
    · simp only [qCN e]; exact ⟨m, hm, .refl m⟩
  have nl : ∀ b, (∀ m, μ id = some m → ¬ m.has b) → ¬ Live [.rows false sz rs0] (fun k => if k = 0 then μ id else none) b := by
    rintro b hb ⟨i, bi, mi, e1, _, e3, e4⟩
    simp only at e3
    split at e3
    · exact hb _ e3 e4
    · cases e3
  have hlen : id < H.length := (qB5.1 hi).1
  have aux : ∀ (j : Nat) bj, (H.set id (.rows false sz (renR (fun _ => id) rs')))[j]? = some bj → (j = id ∧ bj = .rows false sz (renR (fun _ => id) rs')) ∨ (j ≠ id ∧ H[j]? = some bj) := by
    intro j bj hj
    rw [qCn] at hj
    split at hj
    · rename_i e; subst e
      try rw [qCM hlen] at hj
      cases hj; exact .inl ⟨rfl, rfl⟩
    · rename_i e; exact .inr ⟨fun e' => e e'.symm, hj⟩
  have apart : ∀ (j : Nat) bj mj, j ≠ id → H[j]? = some bj → bj.live = true → μ j = some mj → ∀ x, mj.has x → x < w.heap.size ∧ ¬ Live [.rows false sz rs0] (fun k => if k = 0 then μ id else none) x := by
    intro j bj mj hne e hb f1 x hxj
    exact ⟨(h.liveH e hb f1 x hxj).1, nl _ fun m hm he => hne (h.inj j id bj _ mj m e hi hb rfl f1 hm x hxj he)⟩
  refine ⟨⟨h2.cl, fun j mj hj => ?_, fun j hj => ?_, fun j b hj hb => ?_, fun j d sz rs hj => ?_, fun i i' b b' m1 m2 e1 e2 e3 e4 e5 e6 x e7 e8 => ?_, ?_, h2.lnt⟩,
    ⟨hx.os, hx.tape, hx.output, hx.size, hx.cl, fun i m _ hm => hmu i m hm, fun b hb hnl => ?_, by simp⟩⟩
  · simp only [List.length_set]
    by_cases e : j = id
    · subst e; exact hlen
    · rw [qCN e] at hj; exact h.dom j mj hj
  · rcases aux j _ hj with ⟨_, e⟩ | ⟨hne, e⟩
    · cases e
    · simp only [qCN hne]; exact h.res j e
  · rcases aux j b hj with ⟨rfl, rfl⟩ | ⟨hne, e⟩
    · simp only [if_true]
      refine ⟨fun hn => ?_, fun m hm => ?_⟩
      · have := (h2.live 0 _ h20 rfl).1 hn
        cases rs' <;> first | rfl | cases this
      · obtain ⟨-, -, g4, g5, g6, g7⟩ := h2.liveM h20 rfl hm
        refine ⟨h2.liveH h20 rfl hm, g4, by rw [qcR, qCH]; exact g5, ?_, g7⟩
        refine g6.renm (k := 0) (L := [0]) (fun x mx hx hmx => ?_) hin
        have : x = 0 := by rcases hx with hx | hx; · omega
                           · simpa using hx
        subst this
        simpa using hmx
    · simp only [qCN hne]
      refine ⟨(h.live j b e hb).1, fun mj f1 => ?_⟩
      obtain ⟨f2, f4⟩ := (h.live j b e hb).2 mj f1
      have q := fun x (hxj : mj.has x) => hx.fr x (f2 x hxj).1 (apart j b mj hne e hb f1 x hxj).2
      exact ⟨fun x hxj => ⟨Nat.lt_of_lt_of_le (f2 x hxj).1 hx.size, fun o => by rw [(q x hxj).2.2]; exact (f2 x hxj).2.1 o, (f2 x hxj).2.2⟩, f4.monoG hx.cl hmu (fun x hxj => (q x hxj).1)⟩
  · rcases aux j _ hj with ⟨_, e⟩ | ⟨hne, e⟩
    · cases e
    · simp only [qCN hne]
      refine ⟨(h.froz j d sz rs e).1, fun mj f1 => ?_⟩
      obtain ⟨f2, f3, f4⟩ := (h.froz j d sz rs e).2 mj f1
      exact ⟨f2, f3, f4.monoG hx.cl hmu (fun i j row x hi' hj' => by
        obtain ⟨_, v, hv, _⟩ := (f4 i row hi').2 j x hj'
        exact (hx.cl _ _ _ hv).trans hv.symm)⟩
  · have cross : ∀ (j : Nat) bj mj m0, j ≠ id → H[j]? = some bj → bj.live = true → μ j = some mj → μ2 0 = some m0 → ∀ x, m0.has x → ¬ mj.has x := by
      intro j bj mj m0 hne e hb f1 hm0 x hx0 hxj
      obtain ⟨f2, f3⟩ := apart j bj mj hne e hb f1 x hxj
      exact (hx.fr x f2 f3).2.1 ⟨0, _, m0, h20, rfl, hm0, hx0⟩
    rcases aux i b e1 with ⟨rfl, rfl⟩ | ⟨hne, e⟩ <;> rcases aux i' b' e2 with ⟨rfl, rfl⟩ | ⟨hne', e'⟩
    · rfl
    · rw [qCM rfl] at e5; rw [qCN hne'] at e6
      exact (cross i' b' m2 m1 hne' e' e4 e6 e5 x e7 e8).elim
    · rw [qCN hne] at e5; rw [qCM rfl] at e6
      exact (cross i b m1 m2 hne e e3 e5 e6 x e8 e7).elim
    · rw [qCN hne] at e5; rw [qCN hne'] at e6
      exact h.inj i i' b b' m1 m2 e e' e3 e4 e5 e6 x e7 e8
  · exact h.free.set (b := .rows false sz (renR (fun _ => id) rs')) (fun hd => by cases hd)
  · obtain ⟨q1, q2, q3⟩ := hx.fr b hb (nl b fun m hm e => hnl ⟨id, _, m, hi, rfl, hm, e⟩)
    refine ⟨q1, fun hl => ?_, q3⟩
    obtain ⟨j, bj, mj, e1, e2, e3, e5⟩ := hl
    simp only at e3
    rcases aux j bj e1 with ⟨rfl, rfl⟩ | ⟨hne, e⟩
    · rw [qCM rfl] at e3
      exact q2 ⟨0, _, mj, h20, rfl, e3, e5⟩
    · rw [qCN hne] at e3
      exact hnl ⟨j, bj, mj, e, e2, e3, e5⟩
theorem qip[Lent](h:Wld C μ H w){C2:qu}{μ2:MMap}{w1:World}{G:AH}(e2:Wld C2 μ2 G w1)(e3:Ext 0 C (λ_=>none) [] w C2 μ2 G w1){nid:Option Nat}{a r:AV}{H':AH}{v:Value}(e1:Rep C2 μ2 a v)(hi:yB nid G a H=some (r,H')):∃μ',Rep C2 μ' r v∧Wld C2 μ' H' w1∧Ext H.length C μ H w C2 μ' H' w1:=by
 obtain⟨b1,b2⟩:=h.back e3 e2;unfold yB at hi;split at hi
 ·rename_i id off len;split at hi
  case h_2=>cases hi
  rename_i d sz rs hid;split at hi
  case isFalse=>cases hi
  rename_i hrr;have hrr:qI 0 rs=true:=by
   rw[qCI]at hrr;exact hrr.elim (λhd=>e2.free.get hid hd) (λh=>h)
  split at hi
  case h_2=>cases hi
  rename_i k H2 hnew;cases hi;have b3:=b2 _ (qCa _);cases hm:μ2 id with
  |none=>
   have hv:=(e2.live id _ hid rfl).1 hm;obtain⟨n1,n2⟩:=b1.newV hnew rfl (by cases rs<;>first|rfl|cases hv) (λ_=>hrr);cases e1 with
   |msN _ _=>exact⟨μ,.msN _ _,n1,b3.trans (n2 _ (qCa _)) (qCa _)⟩
   |ms _ _ _ cap ad m' hm' hl had=>rw[hm]at hm';cases hm'
  |some m=>
  obtain⟨hlt,hc,hblk⟩:=e2.liveM hid rfl hm;have hge:∀x,m.has x->¬x<w.heap.size:=λx hx hb=>(e3.fr _ hb zO).2.1 ⟨id,_,m,hid,rfl,hm,hx⟩
  have hnl:∀x,m.has x->¬Live H μ x:=λx hx hl=>hge x hx (h.live_lt hl)
  have hlv:=e2.liveH hid rfl hm;obtain⟨n1,n2,n3,n4,n5⟩:=b1.new hnew hnl (λx hx=>(hlv x hx).1) (λx hx=>(hlv x hx).2.1) (λx hx=>(hlv x hx).2.2) rfl (by
   obtain⟨c1,c2,c3,c4⟩:=hblk;exact⟨c1,c2,λi row hi=>⟨(c3 i row hi).1,λj x hj=>by
    obtain⟨d1,u,d2,d3⟩:=(c3 i row hi).2 j x hj;exact⟨d1,u,d2,d3.free _ (xm (zD hrr hi) hj)⟩⟩,c4⟩) (λ_=>hrr)
  have fin:∀{v:Value},Rep C2 (upd μ k m) (.ms k off len) v->∃μ',Rep C2 μ' (.ms k off len) v∧Wld C2 μ' H' w1∧Ext H.length C μ H w C2 μ' H' w1:=fun{v} hrv=>by
   refine⟨upd μ k m,hrv,n1,⟨b3.os,b3.tape,b3.output,b3.size,b3.cl,λid m' _ hm'=>⟨_,n2 id m' hm',.refl _⟩,λb hb hnl'=>?_,n3⟩⟩;obtain⟨f1,f2,f3⟩:=b3.fr b hb hnl';refine⟨f1,λhl=>?_,f3⟩;rcases n4 b hl with hl|hl
   ·exact hnl' hl
   ·exact hge _ hl hb
  cases e1 with
  |msN _ _=>exact fin (.msN _ _)
  |ms _ _ _ cap ad m' hm' hl had=>
   rw[hm]at hm';cases hm';exact fin (.ms k off len cap ad m (by unfold upd;rw[qCM rfl]) hl had)
 ·split at hi
  ·rename_i hrf;cases hi;exact⟨μ,e1.free μ hrf,b1,b2 _ (qCa _)⟩
  ·cases hi
theorem qsa[Lent](h:Wld C μ H w){C2:qu}{μ2:MMap}{w1:World}{G:AH}(e2:Wld C2 μ2 G w1)(e3:Ext 0 C (λ_=>none) [] w C2 μ2 G w1){nid:Option Nat}{a r:AV}{H':AH}{v:Value}(e1:Rep C2 μ2 a v)(hi:yB nid G a H=some (r,H')):xJ C μ H w r H' v w1:=⟨C2,qip h e2 e3 e1 hi⟩
theorem Rep.plain[Lent]{a:AV}{v:Value}(hp:a.plain=true)(h:Rep C μ a v):Rep C' μ' a v:=by
 cases a<;>simp[AV.plain]at hp
 ·cases h;exact .int _ _
 ·cases h;exact .bool _
theorem Wld.places[Lent](h:Wld C μ H w)(n:Nat):Wld C μ (H++qCr n .res) w where
 cl:=h.cl
 lnt:=h.lnt
 dom:=λid m hm=>by have:=h.dom id m hm;simp;omega
 res:=λid hi=>by
  rcases Nat.lt_or_ge id H.length with hlt|hge
  ·rw[qCf hlt]at hi;exact h.res id hi
  ·cases hm:μ id with
   |none=>rfl
   |some m=>have:=h.dom id m hm;omega
 live:=λid blk h1 h2=>by
  rcases Nat.lt_or_ge id H.length with hlt|hge
  ·rw[qCf hlt]at h1;exact h.live id blk h1 h2
  ·rw[qCo hge]at h1;have:=qCc h1;rw[List.mem_replicate]at this;rw[this.2]at h2;cases h2
 free:=λid b h1=>by
  rcases Nat.lt_or_ge id H.length with hlt|hge
  ·rw[qCf hlt]at h1;exact h.free id b h1
  ·rw[qCo hge]at h1;have:=qCc h1;rw[List.mem_replicate]at this;rw[this.2];trivial
 froz:=λid d sz rs h1=>by
  rcases Nat.lt_or_ge id H.length with hlt|hge
  ·rw[qCf hlt]at h1;exact h.froz id d sz rs h1
  ·rw[qCo hge]at h1;have:=qCc h1;rw[List.mem_replicate]at this;cases this.2
 inj:=λi i' b b' m m' h1 h2 h3 h4=>by
  have aux:∀(j:Nat) bj,(H++qCr n .res)[j]? =some bj->bj.live=true->H[j]? =some bj:=by
   intro j bj hj hl;rcases Nat.lt_or_ge j H.length with hlt|hge
   ·rw[qCf hlt]at hj;exact hj
   ·rw[qCo hge]at hj;have:=qCc hj;rw[List.mem_replicate]at this;rw[this.2]at hl;cases hl
  exact h.inj i i' b b' m m' (aux i b h1 h3) (aux i' b' h2 h4) h3 h4
theorem Live.places{n b:Nat}(h:Live (H++qCr n .res) μ b):Live H μ b:=by
 obtain⟨j,bj,m,h1,h2,h3,h4⟩:=h;rcases Nat.lt_or_ge j H.length with hlt|hge
 ·rw[qCf hlt]at h1;exact⟨j,bj,m,h1,h2,h3,h4⟩
 ·rw[qCo hge]at h1;have:=qCc h1;rw[List.mem_replicate]at this;rw[this.2]at h2;cases h2
theorem qoY[Lent](h:Wld C μ H w){fr:List AV}{tmps:Array Value}(hf:qy C μ fr tmps)(k:Nat)(hk:k<=H.length):∃μ',Wld C μ' (gc k fr H).2 w∧qy C μ' (gc k fr H).1 tmps∧Ext k C μ H w C μ' (gc k fr H).2 w:=by
 obtain⟨μ',g1,g2,g3,g4,g5⟩:=qoX h hf k hk;exact⟨μ',g1,g2,⟨rfl,rfl,rfl,qCa _,λ_ _ _ h=>h,λid m hid hm=>⟨m,g3 id m hid hm,.refl m⟩,λb _ hnl=>⟨rfl,λhl=>hnl (g4 b hl),rfl⟩,g5⟩⟩
theorem qy.setA[Lent]{fr:List AV}{tmps:Array Value}(h:qy C μ fr tmps){i:Nat}{a:AV}(ha:∀v,tmps[i]? =some v->Rep C μ a v):qy C μ (fr.set i a) tmps:=by
 refine⟨by simpa using h.1,λj x v e1 e2=>?_⟩;rw[qCn]at e1;split at e1
 ·rename_i e;subst e;split at e1
  ·cases e1;exact ha v e2
  ·cases e1
 ·exact h.2 j x v e1 e2
theorem Wld.reRow[Lent](h:Wld C μ H w){id n:Nat}{d:Bool}{rs rs':List (List AV)}(hi:H[id]? =some (.rows d n rs))(hne:rs≠[])(hr:∀m,μ id=some m->vZ C μ w m (.rows d n rs)->vZ C μ w m (.rows false n rs')):
  Wld C μ (H.set id (.rows false n rs')) w∧∀j,j<=H.length->Ext j C μ H w C μ (H.set id (.rows false n rs')) w:=by
 obtain⟨m,hm,h1,h2,h3⟩:=h.liveX hi rfl (by cases rs<;>first|rfl|exact absurd rfl hne);exact⟨h.setBlk hi rfl rfl hm rfl (λ_ _=>rfl) (hr m hm h3) (λhd=>by cases hd),λj hj=>Ext.setBlk h hi rfl hm rfl (λ_ _=>rfl) rfl rfl rfl hj⟩
theorem Wld.trim[Lent](h:Wld C μ H w){j n:Nat}{rs:List (List AV)}(hj:H[j]? =some (.rows true n rs))(k:Nat):
  Wld C μ (H.set j (.rows true n (rs.take k))) w∧∀i,i<=H.length->Ext i C μ H w C μ (H.set j (.rows true n (rs.take k))) w:=by
 have hlen:j<H.length:=(qB5.1 hj).1;have aux:∀(i:Nat) b,(H.set j (.rows true n (rs.take k)))[i]? =some b->(i=j∧b= .rows true n (rs.take k))∨(i≠j∧H[i]? =some b):=by
  intro i b hb;rw[qCn]at hb;split at hb
  ·rename_i e;subst e
   try rw[qCM hlen]at hb
   cases hb;exact .inl ⟨rfl,rfl⟩
  ·rename_i e;exact .inr ⟨λe'=>e e'.symm,hb⟩
 have back:∀(i:Nat) b,(H.set j (.rows true n (rs.take k)))[i]? =some b->b.live=true->∃b',H[i]? =some b'∧b'.live=true:=by
  intro i b hb hl;rcases aux i b hb with⟨rfl,rfl⟩|⟨_,e⟩
  ·exact⟨_,hj,rfl⟩
  ·exact⟨b,e,hl⟩
 have hw:Wld C μ (H.set j (.rows true n (rs.take k))) w:=by
  refine⟨h.cl,λi m hm=>by rw[List.length_set];exact h.dom i m hm,λi hi=>?_,λi b hi hb=>?_,λi d sz rs' hi=>?_,λi i' b b' m1 m2 e1 e2 e3 e4 e5 e6 x e7 e8=>?_,?_,h.lnt⟩
  ·rcases aux i _ hi with⟨_,e⟩|⟨_,e⟩
   ·cases e
   ·exact h.res i e
  ·rcases aux i b hi with⟨rfl,rfl⟩|⟨_,e⟩
   ·obtain⟨a1,a2⟩:=h.live i _ hj rfl;refine⟨λhn=>?_,λm hm=>?_⟩
    ·have:=a1 hn;cases rs with
     |nil=>simp[ABlk.vacant]
     |cons x l=>cases this
    ·obtain⟨b1,b2⟩:=a2 m hm;obtain⟨c1,c2,c3,c4⟩:=b2;refine⟨b1,c1,?_,λi row hi'=>?_,c4⟩
     ·refine Nat.le_trans (qCv _ ?_) c2;rw[qCD];omega
     ·rw[List.getElem?_take]at hi';split at hi'
      ·exact c3 i row hi'
      ·cases hi'
   ·exact h.live i b e hb
  ·rcases aux i _ hi with⟨_,e⟩|⟨_,e⟩
   ·cases e
   ·exact h.froz i d sz rs' e
  ·obtain⟨c1,g1,g2⟩:=back i b e1 e3;obtain⟨c2,g3,g4⟩:=back i' b' e2 e4;exact h.inj i i' c1 c2 m1 m2 g1 g3 g2 g4 e5 e6 x e7 e8
  ·refine h.free.set (b:=.rows true n (rs.take k)) (λhd=>?_);have:=h.free j _ hj rfl;rw[yS]at this⊢;exact λr hr=>this r (List.mem_of_mem_take hr)
 refine⟨hw,λi hi=>⟨rfl,rfl,rfl,qCa _,λ_ _ _ h=>h,λ_ m _ h=>⟨m,h,.refl m⟩,λb _ hnl=>⟨rfl,λhl=>?_,rfl⟩,by rw[List.length_set];exact hi⟩⟩;obtain⟨i,bi,mi,e1,e2,e3,e4⟩:=hl;obtain⟨c1,g1,g2⟩:=back i bi e1 e2;exact hnl ⟨i,c1,mi,g1,g2,e3,e4⟩
theorem qqj[Lent](h:Wld C μ H w){fr:List AV}{tmps:Array Value}(hf:qy C μ fr tmps)(t sz:Nat):
  Wld C μ (zF t sz fr H).2 w∧qy C μ (zF t sz fr H).1 tmps∧H.length<=(zF t sz fr H).2.length∧∀j,j<=H.length->Ext j C μ H w C μ (zF t sz fr H).2 w:=by
 have triv:Wld C μ H w∧qy C μ fr tmps∧H.length<=H.length∧∀j,j<=H.length->Ext j C μ H w C μ H w:=⟨h,hf,qCa _,λj hj=>Ext.refl hj⟩;unfold zF;split
 ·rename_i hn;obtain⟨n1,n2⟩:=h.newV (nid:=none) (blk:=.rows true sz []) rfl rfl rfl (λ_=>rfl);refine⟨n1,hf.setA λv hv=>?_,by simp,n2⟩;have:=hf.2 t _ v hn hv;cases this;exact .msN _ _
 ·rename_i id r off hp;split
  ·rename_i d n rs hi;split
   ·rename_i row hr;split
    ·rename_i ho;have hne:rs≠[]:=by rintro rfl;simp at hr
     obtain⟨r1,r2⟩:=h.reRow (rs':=rs.set r (row.set off (.ms H.length 0 0))) hi hne (λm hm hb=>by
      obtain⟨b1,b2,b3,b4⟩:=hb;refine⟨b1,by simpa using b2,λi row' hi'=>?_,b4⟩;rw[qCn]at hi';split at hi'
      ·rename_i e;subst e;split at hi'
       ·cases hi';refine⟨by simpa using (b3 r row hr).1,λj x hj=>?_⟩;rw[qCn]at hj;split at hj
        ·rename_i e2;subst e2;split at hj
         ·cases hj;obtain⟨_,v,c2,c3⟩:=(b3 r row hr).2 off _ ho;refine⟨rfl,v,c2,?_⟩;cases c3;exact .msN _ _
         ·cases hj
        ·exact(b3 r row hr).2 j x hj
       ·cases hi'
      ·exact b3 i row' hi')
     obtain⟨n1,n2⟩:=r1.newV (nid:=none) (blk:=.rows true (lsz sz) []) rfl rfl rfl (λ_=>rfl);exact⟨n1,hf,by simp,λj hj=>(r2 j hj).trans (n2 j (by simpa using hj)) (qCa _)⟩
    ·rename_i j len _;split
     ·split
      ·rename_i n' rs' hj;obtain⟨t1,t2⟩:=h.trim hj len;exact⟨t1,hf,by simp,t2⟩
      ·exact triv
     ·exact triv
    ·exact triv
   ·exact triv
  ·exact triv
 ·exact triv
theorem qc9 [Lent] {cfg : Cfg} {cf : Orac} (hO : qaq cfg cf) {nid : Option Nat} {t : Tgt} {args : List AV} {vs : Array Value} {s : Sem Next} {r : AV} (ha : qy C μ args vs) (h : Wld C μ H w) (ht : qtl μ t vs s)
    (he : vj cfg cf nid t args H = some (r, H')) : vM cfg.P s w (xJ C μ H w r H') := by
  have imp : ∀ {r1 : AV} {H1 : AH} {v : Value} {w1 : World}, xB nid H.length r1 H1 = some (r, H') → xJ C μ H w r1 H1 v w1 → xJ C μ H w r H' v w1 := by
    intro r1 H1 v w1 hi ⟨C1, μ1, e1, e2, e3⟩
    have hf : qy C1 μ1 [r1] #[v] := ⟨rfl, fun i a u h1 h2 => by
      cases i with
      | zero => simp at h1 h2; subst h1; subst h2; exact e1
      | succ i => simp at h1⟩
    obtain ⟨μ', g1, g2, g3, g4, g5⟩ := qoX e2 hf H.length e3.len
    have fin : ∀ {r' : AV} {H2 : AH}, gc H.length [r1] H1 = ([r'], H2) → xJ C μ H w r' H2 v w1 := by
      intro r' H2 hg
      rw [hg] at g1 g2 g4 g5
      refine ⟨C1, μ', g2.2 0 r' v rfl rfl, g1, ⟨e3.os, e3.tape, e3.output, e3.size, e3.cl, fun id m hid hm => let ⟨m', e4, e5⟩ := e3.mu id m hid hm; ⟨m', g3 id m' hid e4, e5⟩, fun b hb hnl => ?_, g5⟩⟩
      obtain ⟨f1, f2, f3⟩ := e3.fr b hb hnl
      exact ⟨f1, fun hl => f2 (g4 b hl), f3⟩
    unfold xB at hi
    split at hi
    · rename_i r' H2 hg
      split at hi
      · cases hi; exact fin hg
      · split at hi
        · cases hi; exact fin hg
        · cases hi
    · cases hi
  unfold vj at he
  split at he
  · rename_i id
    obtain ⟨q, hq, hi⟩ := qB6.1 he
    exact (hO _ _ _ _ _ hq C μ w vs s ha h ht).mono fun v w1 hp => imp hi hp
  · rename_i f
    split at he
    · -- scal
      split at he
      case isFalse => cases he
      rename_i hfree
      obtain ⟨q, hq, hi⟩ := qB6.1 he
      split at hi
      case isFalse => cases hi
      rename_i hsc
      cases hi
      obtain ⟨C1, a1, a2, a3⟩ := xr (qCJ H.length) h
      have hrg := qpK (C1 := C1) h a2.cl
      have hall := (xZ.of a2).mono (C' := yz C1 μ H w) (fun _ _ _ h => qjx h)
      replace a1 : ∀ b o v, C b o = some v → yz C1 μ H w b o = some v := fun b o v hh => qjx (a1 b o v hh)
      have hnil : Wld (yz C1 μ H w) (fun _ => none) [] w := { cl := fun b o v hh => qnL a2.cl hh, dom := (fun id m hm => nomatch hm), res := fun id hi => rfl, live := (fun id blk h1 => by simp at h1), froz := (fun id d sz rs h1 => by simp at h1), inj := (fun i i' b b' m m' h1 => by simp at h1), free := qaj.nil, lnt := ⟨h.lnt.1, fun hu b o v hn hh => qpJ h (fun o v => a2.lnt.2.1 hu b o v hn) hh, h.lnt.2.2⟩ }
      have hid : ∀ id, id < H.length → id ∈ qCJ H.length := fun id h => List.mem_range.2 h
      have ha1 : qy (yz C1 μ H w) μ (args.map fun a => (a.snap H).fg) vs := ⟨by simpa using ha.1, fun i a v h1 h2 => by
        obtain ⟨b, hb, rfl⟩ := qz h1
        exact (((ha.2 i b v hb h2).mono a1 (fun _ _ h => h)).snapA hrg hid hall).fgA⟩
      refine (hO _ _ _ _ _ hq _ (fun _ => none) w vs s (ha1.free _ hfree) hnil ht).mono fun v w1 ⟨C2, μ2, e1, e2, e3⟩ => ?_
      have hfr : ∀ b, b < w.heap.size → w1.heap[b]? = w.heap[b]? := fun b hb => (e3.fr b hb zO).1
      exact ⟨C, μ, e1.scalarA hsc, h.world e3.size (fun b hb => hfr b hb), ⟨e3.os, e3.tape, e3.output, e3.size, fun _ _ _ h => h, fun _ _ _ h => ⟨_, h, .refl _⟩, fun b hb hnl => ⟨hfr b hb, hnl, rfl⟩, qCa _⟩⟩
    · -- pfrz
      split at he
      case isFalse => cases he
      rename_i hfree
      obtain ⟨q, hq, hi⟩ := qB6.1 he
      split at hi
      case isFalse => cases hi
      rename_i hrf
      cases hi
      refine (hO _ _ _ _ _ hq C (fun _ => none) w vs s (ha.fg.free _ hfree) h.nil ht).mono fun v w1 ⟨C2, μ2, e1, e2, e3⟩ => ?_
      obtain ⟨C3, a1, a2, a3⟩ := xr q.1.msIds e2
      obtain ⟨b1, b2⟩ := h.back (e3.trans (a3 0 (Nat.zero_le _)) (qCa _)) a2
      exact ⟨C3, μ, ((e1.mono a1 (fun _ _ h => h)).frzA (xZ.of a2)).fgA.free μ hrf, b1, b2 _ (qCa _)⟩
    · -- pown
      split at he
      case isFalse => cases he
      rename_i hfree
      obtain ⟨q, hq, hi⟩ := qB6.1 he
      refine (hO _ _ _ _ _ hq C (fun _ => none) w vs s (ha.free _ hfree) h.nil ht).mono fun v w1 ⟨C2, μ2, e1, e2, e3⟩ => ?_
      unfold qcU at hi
      split at hi
      · rename_i a sc hqr
        split at hi
        case isFalse => cases hi
        rename_i hsc
        obtain ⟨p, hp, hpe⟩ := qCb.1 hi
        cases hpe
        rw [hqr] at e1
        cases e1 with
        | tup _ vs hl hr =>
          match vs, hl, hr with
          | [va, vb], _, hr =>
            obtain ⟨C3, a1, a2, a3⟩ := xr sc.msIds e2
            obtain ⟨μ3, f1, f2, f3⟩ := qip h a2 (e3.trans (a3 0 (Nat.zero_le _)) (qCa _)) ((hr 0 a va rfl rfl).mono a1 (fun _ _ h => h)) hp
            refine ⟨C3, μ3, ?_, f2, f3⟩
            have := Rep.tup (C := C3) (μ := μ3) [p.1, (sc.frz sc.msIds q.2).fg] [va, vb] rfl (fun i x u hx hu => by
              match i, hx, hu with
              | 0, hx, hu => simp at hx hu; subst hx hu; exact f1
              | 1, hx, hu => simp at hx hu; subst hx hu; exact ((((hr 1 _ _ rfl rfl).mono a1 (fun _ _ h => h)).frzA (xZ.of a2)).fgA).free μ3 hsc
              | i + 2, hx, hu => simp at hx)
            exact this
      · exact qsa h e2 e3 e1 hi
    · -- mut
      split at he
      case h_2 =>
        split at he
        case isFalse => cases he
        rename_i hfree
        obtain ⟨q, hq, hi⟩ := qB6.1 he
        split at hi
        case isFalse => cases hi
        rename_i hrf
        cases hi
        refine (hO _ _ _ _ _ hq C (fun _ => none) w vs s (ha.free _ hfree) h.nil ht).mono fun v w1 ⟨C2, μ2, e1, e2, e3⟩ => ?_
        obtain ⟨b1, b2⟩ := h.back e3 e2
        exact ⟨C2, μ, e1.free μ hrf, b1, b2 _ (qCa _)⟩
      rename_i id l hids
      split at he
      case isFalse => cases he
      rename_i hall
      split at he
      case h_2 => cases he
      rename_i d0 sz rs hid
      split at he
      case isFalse => cases he
      rename_i hd0
      have hrr : qI 0 rs = true := by
        rw [qCI] at hd0
        exact hd0.elim (fun hd => h.free.get hid hd) (fun h => h)
      obtain ⟨q, hq, hi⟩ := qB6.1 he
      obtain ⟨p, hp, hpe⟩ := qCb.1 hi
      cases hpe
      have hin : ∀ x ∈ vg 0 args, x ∈ [id] := by
        rw [hids]
        intro x hx
        rcases qCB.1 hx with rfl | hx
        · simp
        · exact (zY.1 hall) x hx
      have ha' : qy C (fun k => if k = 0 then μ id else none) (renL (fun _ => 0) args) vs := ha.renm (k := 0) (L := [id]) (fun x mx hx hmx => by
        have : x = id := by rcases hx with hx | hx; · omega
                            · simpa using hx
        subst this
        simpa using hmx) hin
      refine (hO _ _ _ _ _ hq C _ w vs s ha' (h.one hrr hid) ht).mono fun v w1 ⟨C2, μ2, e1, e2, e3⟩ => ?_
      unfold qj4 at hp
      split at hp
      case h_2 => cases hp
      rename_i sz' rs' l' hq2
      split at hp
      case isFalse => cases hp
      rename_i hc
      cases hp
      rw [qB2] at hc
      have hsz := qB9 hc.1
      subst hsz
      rw [hq2] at e2 e3
      obtain ⟨b1, b2⟩ := h.putBack hid e2 e3
      refine ⟨C2, _, ?_, b1, b2⟩
      refine e1.renm (k := 0) (L := [0]) (fun x mx hx hmx => ?_) (fun x hx => (zY.1 hc.2) x hx)
      have : x = 0 := by rcases hx with hx | hx; · omega
                         · simpa using hx
      subst this
      simpa using hmx
    · -- imp
      obtain ⟨q, hq, hi⟩ := qB6.1 he
      exact (hO _ _ _ _ _ hq C μ w vs s ha h ht).mono fun v w1 hp => imp hi hp
    · -- ifrz
      obtain ⟨q, hq, hi⟩ := qB6.1 he
      refine (hO _ _ _ _ _ hq C μ w vs s ha h ht).mono fun v w1 ⟨C2, μ2, e1, e2, e3⟩ => imp hi ?_
      obtain ⟨C3, a1, a2, a3⟩ := xr q.1.msIds e2
      exact ⟨C3, μ2, (e1.mono a1 (fun _ _ h => h)).frzA (xZ.of a2), a2, e3.trans (a3 _ e3.len) (qCa _)⟩
    · -- inpf
      split at he
      case h_2 => cases he
      rename_i id l hids
      split at he
      case isFalse => cases he
      rename_i hall
      split at he
      case h_2 => cases he
      rename_i d0 sz rs hid
      split at he
      case isFalse => cases he
      rename_i hd0
      have hrr : qI 0 rs = true := by
        rw [qCI] at hd0
        exact hd0.elim (fun hd => h.free.get hid hd) (fun h => h)
      obtain ⟨q, hq, hi⟩ := qB6.1 he
      obtain ⟨p, hp, hpe⟩ := qCb.1 hi
      cases hpe
      have hin : ∀ x ∈ vg 0 args, x ∈ [id] := by
        rw [hids]
        intro x hx
        rcases qCB.1 hx with rfl | hx
        · simp
        · exact (zY.1 hall) x hx
      have ha' : qy C (fun k => if k = 0 then μ id else none) (renL (fun _ => 0) args) vs := ha.renm (k := 0) (L := [id]) (fun x mx hx hmx => by
        have : x = id := by rcases hx with hx | hx; · omega
                            · simpa using hx
        subst this
        simpa using hmx) hin
      refine (hO _ _ _ _ _ hq C _ w vs s ha' (h.one hrr hid) ht).mono fun v w1 ⟨C2, μ2, e1, e2, e3⟩ => ?_
      unfold qkz at hp
      split at hp
      case h_2 => cases hp
      rename_i sz' rs' l' hq2
      split at hp
      case isFalse => cases hp
      rename_i hc
      cases hp
      rw [qB2, qB2] at hc
      have hsz := qB9 hc.1.1
      subst hsz
      obtain ⟨C3, a1, a2, a3⟩ := xr q.1.msIds e2
      have e5 := fun μ => ((e1.mono a1 (fun _ _ h => h)).frzA (xZ.of a2)).fgA.free μ hc.2
      have hx := e3.trans (a3 1 (by rw [hq2]; simp)) (qCa _)
      obtain ⟨l2, hl2⟩ := qc0 (l := l') (b := .rows true sz' rs') q.1.msIds hc.1.2
      rw [hq2, hl2] at a2 hx
      obtain ⟨b1, b2⟩ := h.putBack hid a2 hx
      exact ⟨C3, _, e5 _, b1, b2⟩
    · -- slf
      split at he
      case h_2 => cases he
      rename_i id l hids
      split at he
      case isFalse => cases he
      rename_i hall
      split at he
      case h_2 => cases he
      rename_i d0 sz rs hid
      split at he
      case isFalse => cases he
      rename_i hrr
      rw [zY] at hrr
      obtain ⟨q, hq, hi⟩ := qB6.1 he
      obtain ⟨p, hp, hpe⟩ := qCb.1 hi
      cases hpe
      have hin : ∀ x ∈ vg 0 args, x ∈ [id] := by
        rw [hids]
        intro x hx
        rcases qCB.1 hx with rfl | hx
        · simp
        · exact (zY.1 hall) x hx
      have ha' : qy C (fun k => if k = 0 then μ id else none) (renL (fun _ => 0) args) vs := ha.renm (k := 0) (L := [id]) (fun x mx hx hmx => by
        have : x = id := by rcases hx with hx | hx; · omega
                            · simpa using hx
        subst this
        simpa using hmx) hin
      refine (hO _ _ _ _ _ hq C _ w vs s ha' (h.oneS hrr hid) ht).mono fun v w1 ⟨C2, μ2, e1, e2, e3⟩ => ?_
      unfold qjL at hp
      split at hp
      case h_2 => cases hp
      rename_i sz' rs' l' hq2
      split at hp
      case isFalse => cases hp
      rename_i hc
      cases hp
      rw [qB2, qB2, qB2, zY] at hc
      have hsz := qB9 hc.1.1.1
      subst hsz
      obtain ⟨C3, a1, a2, a3⟩ := xr q.1.msIds e2
      have e5 := fun μ => ((e1.mono a1 (fun _ _ h => h)).frzA (xZ.of a2)).fgA.free μ hc.1.2
      have hx := e3.trans (a3 1 (by rw [hq2]; simp)) (qCa _)
      obtain ⟨l2, hl2⟩ := qc0 (l := l') (b := .rows false sz' rs') q.1.msIds hc.1.1.2
      rw [hq2, hl2] at a2 hx
      obtain ⟨b1, b2⟩ := h.putBackS hid hc.2 a2 hx
      exact ⟨C3, _, e5 _, b1, b2⟩
theorem qiA[Lent]{cfg:Cfg}{cf:Orac}(hO:qaq cfg cf){nid:Option Nat}{t:Tgt}{args:List AV}{vs:Array Value}{s:Sem Next}{r:AV}(ha:qy C μ args vs)(h:Wld C μ H w)(ht:qtl μ t vs s)(he:xh cfg cf nid t args H=some (r,H')):vM cfg.P s w (xJ C μ H w r H'):=by
 unfold xh at he;split at he
 ·rename_i hn;split at he
  case h_2=>cases he
  rename_i a b h1 h2;split at he
  case isFalse=>cases he
  rename_i hab;cases he;have hab:=qu1 hab;have hms:∃id off,args=[.ms id off 0]:=by
   unfold zw at hn;split at hn<;>cases hn
  obtain⟨id,off,rfl⟩:=hms;obtain⟨hl,hv⟩:=ha;have hl:vs.size=1:=hl.symm;obtain⟨v,hvs⟩:∃v,vs= #[v]:=by
   obtain⟨l⟩:=vs
   match l,hl with
   |[x],_=>exact⟨x,rfl⟩
  subst hvs;have h0:=hv 0 _ _ rfl rfl;have one:∀{x:AV},Rep C μ x v->qy C μ [x] #[v]:=fun{x} hx=>⟨rfl,λi a u h1 h2=>by
   cases i with
   |zero=>simp at h1 h2;subst h1;subst h2;exact hx
   |succ i=>simp at h1⟩
  cases h0 with
  |ms _ _ _ cap ad m hm hle had=>exact qc9 hO (one (.em _ _)) h ht (by rw[h2,←hab])
  |msN _ _=>exact qc9 hO (one .nilS) h ht h1
 ·exact qc9 hO ha h ht he
variable {C C' C1 C2 : qu} {μ μ' μ1 : MMap} {H H' H1 : AH} {w w' w1 : World} {P : Program}
theorem vM.of_run{s s':Sem Next}{R:Value->World->Prop}(h:s.run P w=s'.run P w)(hc:vM P s' w R):vM P s w R:=by
 unfold vM at *;rw[h];exact hc
theorem qdv.callR[Lent]{s:Sem Next}{r:AV}(h:qdv P s C μ H w r H'):vM P s w (xJ C μ H w r H'):=by
 obtain⟨n,w',C',μ',h1,h2,h3,h4⟩:=h;unfold vM;rw[h1];rcases h2 with⟨v,rfl,hr⟩|⟨rfl,rfl⟩
 ·exact⟨C',μ',hr,h3,h4⟩
 ·exact⟨C',μ',.junk _,h3,h4⟩
theorem qfs{ρ:Operand->Value}{c:Call}{f:Operand}(hc:c.callee= .value f)(ty:TypeId):resolve ρ c ty=Deferred.ofValue (ρ f) (c.args.map ρ):=by
 obtain⟨callee,args,argTypes⟩:=c;simp only at hc;subst hc;rfl
theorem qqK[Lent]{cfg:Cfg}{cf:Orac}(hO:qaq cfg cf){nid:Option Nat}{o:Oper}{c:Call}{f:Operand}(ho:o.op= .call c)(hf:c.callee= .value f){x:Operand->AV}{ρ:Operand->Value}(hx:∀a,Rep C μ (x a) (ρ a))(h:Wld C μ H w){r:AV}(he:((yH (x f) (c.args.toList.map x)).bind λt=>xh cfg cf nid t.1 t.2 H)=some (r,H')):vM cfg.P (execOp ρ o) w (xJ C μ H w r H'):=by
 obtain⟨t,ht,he⟩:=qB6.1 he;have hargs:∀(i:Nat) a v,(c.args.toList.map x)[i]? =some a->(c.args.toList.map ρ)[i]? =some v->Rep C μ a v:=qiT hx _;have hfv:=hx f;have hex:execOp ρ o=(do let d←Deferred.ofValue (ρ f) (c.args.map ρ);invoke d.target d.args):=by
  unfold execOp;simp only[ho];rw[←qfs hf o.type]
 unfold yH at ht;split at ht
 ·rename_i g first caps hxf;cases ht;rw[hxf]at hfv;generalize hv:ρ f=vf at hfv;cases hfv with
  |fn _ _ _ vf vc hl1 hl2 h1 h2=>
   rw[hv]at hex;refine vM.of_run (s':=callFunc g (vf.toArray++c.args.map ρ++vc.toArray)) ?_ (qiA hO (t:=.f g) (vs:=vf.toArray++c.args.map ρ++vc.toArray) ⟨by simp[hl1,hl2],λi a v e1 e2=>?_⟩ h rfl he)
   ·rw[hex];simp[Deferred.ofValue,invoke]
   ·rw[←Array.getElem?_toList]at e2;simp only[Array.toList_append,Array.toList_map]at e2;have hl3:(c.args.toList.map x).length=(c.args.toList.map ρ).length:=by simp
    rcases Nat.lt_or_ge i (first.length+(c.args.toList.map x).length)with hlt|hge
    ·rw[qCf (by simpa using hlt)]at e1;rw[qCf (by simp only[qCq];omega)]at e2;rcases Nat.lt_or_ge i first.length with hlt'|hge'
     ·rw[qCf hlt']at e1;rw[qCf (by omega)]at e2;exact h1 i a v e1 e2
     ·rw[qCo hge']at e1;rw[qCo (by omega)]at e2;rw[←hl1]at e2;exact hargs _ a v e1 e2
    ·rw[qCo (by simpa using hge)]at e1;rw[qCo (by simp only[qCq];omega)]at e2;have:i - (vf++c.args.toList.map ρ).length=i - (first++c.args.toList.map x).length:=by simp[hl1]
     rw[this]at e2;exact h2 _ a v e1 e2
 ·rename_i id hxf;cases ht;rw[hxf]at hfv;generalize hv:ρ f=vf at hfv;cases hfv with
  |yld _ m hm=>
   rw[hv]at hex;refine vM.of_run (s':=Instr.yield m.block (c.args.map ρ)) ?_ (qiA hO (t:=.y id) (vs:=c.args.map ρ) ⟨by simp,λi a v e1 e2=>?_⟩ h ⟨m,hm,rfl⟩ he)
   ·rw[hex];simp[Deferred.ofValue,invoke]
   ·rw[←Array.getElem?_toList,Array.toList_map]at e2;exact hargs i a v e1 e2
 ·cases ht
theorem qc7[Lent]{cfg:Cfg}(hc:CfgTy cfg){cf:Orac}(hO:qaq cfg cf){frz:Bool}{nid:Option Nat}{o:Oper}{x:Operand->AV}{ρ:Operand->Value}(hx:∀a,Rep C μ (x a) (ρ a))(h:Wld C μ H w){r:AV}(he:ve cfg cf frz nid o x H=some (r,H')):vM cfg.P (execOp ρ o) w (xJ C μ H w r H'):=by
 have core:∀{C:qu} {H:AH} {x:Operand->AV},(∀a,Rep C μ (x a) (ρ a))->Wld C μ H w ->
   (match o.op with
    | .call c=>
     match c.callee with
     | .value f=>(yH (x f) (c.args.toList.map x)).bind λt=>xh cfg cf nid t.1 t.2 H
     |_=>evOp cfg nid o.op o.type x H
    |_=>evOp cfg nid o.op o.type x H)=some (r,H')->vM cfg.P (execOp ρ o) w (xJ C μ H w r H'):=by
  intro C H x hx h he;split at he
  ·rename_i c ho;split at he
   ·rename_i f hf;exact qqK hO ho hf hx h he
   ·exact(qkN hc h hx he).callR
  ·exact(qkN hc h hx he).callR
 unfold ve at he;split at he
 ·obtain⟨C1,a1,a2,a3⟩:=xr (o.op.operands.toList.flatMap λa=>(x a).msIds) h;have hx1:∀a,Rep C1 μ ((x a).frz (o.op.operands.toList.flatMap λa=>(x a).msIds) H) (ρ a):=λa=>((hx a).mono a1 (λ_ _ h=>h)).frzA (xZ.of a2)
  refine(core (x:=λa=>(x a).frz (o.op.operands.toList.flatMap λa=>(x a).msIds) H) hx1 a2 he).mono λv w1 ⟨C2,μ2,e1,e2,e3⟩=>⟨C2,μ2,e1,e2,?_⟩
  have:=(a3 _ (qCa _)).trans e3 (by rw[qbK];exact qCa _);exact this
 ·exact core hx h he
def zu(F:Fence):Prop:=F=Fence.wide∨∃l,F=Fence.wide.inRound l
theorem zu.fn{F:Fence}(h:zu F)(f:FuncId):F.fn f:=by
 rcases h with rfl|⟨l,rfl⟩<;>trivial
theorem zu.depth{F:Fence}(h:zu F):F.depth=none:=by
 rcases h with rfl|⟨l,rfl⟩<;>rfl
theorem zu.calls{F:Fence}(h:zu F){f:FuncId}{args:Array Value}{R:Ending->World->Prop}(hc:CallsIn Fence.wide 0 P f args w R):CallsIn F (0 - 1) P f args w R:=by
 rcases h with rfl|⟨l,rfl⟩
 ·exact hc
 ·exact hc
theorem zu.rounds{F:Fence}(h:zu F){l f:Nat}{t:Array Value}{al bd:Code}{R:Ending->World->Prop}(hc:RoundIn Fence.wide 0 P l f t al bd w R):RoundIn F (0 - 1) P l f t al bd w R:=by
 rcases h with rfl|⟨l,rfl⟩
 ·exact hc
 ·exact hc
theorem qgs{F:Fence}(hF:zu F){o:Oper}{a:Act}{next:Act->World->Prop}{Q:Exit->Act->World->Prop}(h:vM P (execOp a.eval o) w λv w'=>next (a.put o.dst v) w'):o.wpIn F 0 P a w next Q:=by
 have hd:∀c,o.op≠.defer c:=by
  intro c hc;unfold vM execOp at h;simp only[hc,Sem.run_bind]at h;generalize (resolve a.eval c o.type).run P w=x at h;cases x with
  |ok d w'=>simp[Result.andThen,Sem.run_pure]at h
  |halt _ _=>simp[Result.andThen]at h
 refine⟨λf _=>hF.fn f,?_⟩;rw[Oper.semAt_eq _ _ _ hd];unfold vM at h;generalize (execOp a.eval o).run P w=x at h;cases x with
 |ok n w'=>
  cases n<;>simp only at h<;>first|exact h|exact h.elim|skip
  ·exact⟨λhh=>by rw[hF.depth]at hh;simp at hh,hF.calls (h.mono λe w'' ⟨v,h1,h2⟩=>by subst h1;exact h2)⟩
  ·exact⟨λhh=>by rw[hF.depth]at hh;simp at hh,hF.rounds (h.mono λe w'' ⟨v,h1,h2⟩=>by subst h1;exact h2)⟩
 |halt _ _=>exact h.elim
theorem qbr[Lent]{fr:List AV}{a:Act}(hf:qy C μ fr a.tmps)(o:Operand):Rep C μ (opd fr o) (a.eval o):=by
 cases o with
 |tmp t=>
  show Rep C μ (fr.getD t .junk) (a.tmps.getD t undef);rcases Nat.lt_or_ge t fr.length with h|h
  ·have h':t<a.tmps.size:=by rw[←hf.1];exact h
   rw[List.getD_eq_getElem?_getD,qB3 h,Array.getD_eq_getD_getElem?,Array.getElem?_eq_getElem h'];exact hf.2 t _ _ (qB3 h) (Array.getElem?_eq_getElem h')
  ·rw[List.getD_eq_getElem?_getD,List.getElem?_eq_none h];exact .junk _
 |const v=>exact qim v
 |global g=>exact .junk _
 |func f=>
  have:=Rep.fn (C:=C) (μ:=μ) (.func f) [] [] [] [] rfl rfl (λi a v h=>by simp at h) (λi a v h=>by simp at h);exact this
theorem qgj[Lent]:Rep C μ (.tup []) undef:=Rep.tup (C:=C) (μ:=μ) [] [] rfl (λi a v h=>by simp at h)
theorem qbp[Lent]{fr:List AV}{a:Act}{dst:Option Tmp}{r:AV}{v:Value}(hf:qy C μ fr a.tmps)(hr:Rep C μ r v):qy C μ (put fr dst r) (a.put dst v).tmps:=by
 cases dst with
 |none=>exact hf
 |some d=>
  refine⟨by simp[put,Act.put,hf.1],λi x u h1 h2=>?_⟩;simp only[put,qCn]at h1;simp only[Act.put,Array.getElem?_setIfInBounds]at h2
  by_cases e:d=i
  ·subst e;rw[qCM rfl]at h1 h2;split at h1
   ·split at h2
    ·cases h1;cases h2;exact hr
    ·cases h2
   ·cases h1
  ·rw[qCN e]at h1 h2;exact hf.2 i x u h1 h2
theorem z9{a:Act}{dst:Option Tmp}{v:Value}:(a.put dst v).defers=a.defers:=by cases dst<;>rfl
theorem qcL[Lent]{fr:List AV}{a:Act}{ops:Array Oper}{o:Oper}{b:Bool}(hf:qy C μ fr a.tmps)(h:xk ops fr o=some b):Region.wanted o (yielded ops a.tmps)=b:=by
 unfold xk at h;unfold Region.wanted;split at h
 ·rename_i hg;rw[hg];simpa using h
 ·rename_i j want hg;rw[hg];simp only;split at h
  ·rename_i d hd;split at h
   ·rename_i b' hb;cases h;have hlt:d<a.tmps.size:=by rw[←hf.1];exact(qB5.1 hb).1
    have hr:=hf.2 d _ _ hb (Array.getElem?_eq_getElem hlt);generalize hv:a.tmps[d]=v at hr;cases hr;have hs:a.tmps[d]? =some (.bool b'):=by rw[Array.getElem?_eq_getElem hlt,hv]
    unfold yielded;rw[hd];simp only[qCe,hs];cases b'<;>cases want<;>rfl
   ·rename_i hb;cases h;have hlt:d<a.tmps.size:=by rw[←hf.1];exact(qB5.1 hb).1
    have hr:=hf.2 d _ _ hb (Array.getElem?_eq_getElem hlt);generalize hv:a.tmps[d]=v at hr;cases hr with
    |tup cs vs hl hh=>
     have hs:a.tmps[d]? =some (.tuple vs.toArray):=by rw[Array.getElem?_eq_getElem hlt,hv]
     unfold yielded;rw[hd];simp only[qCe,hs];rfl
   ·cases h
  ·cases h
theorem qdN[Lent]{cfg:Cfg}(hc:CfgTy cfg){cf:Orac}(hO:qaq cfg cf){F:Fence}(hF:zu F){f rid:Nat}{ops:Array Oper}{Q:Exit->Act->World->Prop}{fr':List AV}:∀(rest:List Oper) (k:Nat) {fr:List AV} {H:AH} {C:qu} {μ:MMap} {w:World} {a:Act},
  y4 cfg cf f rid ops k rest fr H=some (fr',H')->(∀i,rest[i]? =ops[k+i]?)->qy C μ fr a.tmps->Wld C μ H w ->
  (∀C' μ' w' a',qy C' μ' fr' a'.tmps->Wld C' μ' H' w'->Ext H.length C μ H w C' μ' H' w'->a'.defers=a.defers->Q .normal a' w')->wpOpsIn F 0 cfg.P ops Q (List.range' k rest.length) a w
 |[],k,fr,H,C,μ,w,a,he,hi,hf,hw,hq=>by
  simp only[y4]at he;cases he;exact hq C μ w a hf hw (Ext.refl (qCa _)) rfl
 |o::rest,k,fr,H,C,μ,w,a,he,hi,hf,hw,hq=>by
  simp only[y4]at he;obtain⟨b,hb,he⟩:=qB6.1 he;have hok:ops[k]? =some o:=by have:=hi 0;simpa using this.symm
  have hi':∀i,rest[i]? =ops[k+1+i]? :=λi=>by have:=hi (i+1);rw[List.getElem?_cons_succ]at this;rw[this];congr 1;omega
  have hwan:=qcL hf hb;simp only[qCE,List.range'_succ,wpOpsIn,hok];split at he
  ·rename_i hbt;rw[hbt]at hwan;rw[qCM hwan];obtain⟨q,hqe,he⟩:=qB6.1 he;refine qgs hF ((qc7 hc hO (qbr hf) hw hqe).mono λv w1 ⟨C1,μ1,e1,e2,e3⟩=>?_);have hf1:qy C1 μ1 fr a.tmps:=hf.monoG e3.cl (λid m hm=>e3.mu id m (hw.dom id m hm) hm);refine qdN hc hO hF rest (k+1) he hi' (qbp hf1 e1) e2 λC' μ' w' a' g1 g2 g3 g4=>hq C' μ' w' a' g1 g2 (e3.trans g3 e3.len) (by rw[g4,z9])
  ·rename_i hbt;have hbf:b=false:=by simpa using hbt
   rw[hbf]at hwan;rw[qCN (by rw[hwan];simp)];refine⟨λf _=>hF.fn f,?_⟩;exact qdN hc hO hF rest (k+1) he hi' (qbp hf qgj) hw λC' μ' w' a' g1 g2 g3 g4=>hq C' μ' w' a' g1 g2 g3 (by rw[g4,z9])
variable {H H' H2 : AH}
theorem qgx{x y:Operand->AV}{l:List Operand}(h:∀a∈l,x a=y a):l.map x=l.map y:=List.map_congr_left h
theorem qj7{x y:Operand->AV}{l:List (Nat×Operand)}(h:∀a∈l.map (·.2),x a=y a):(l.map λp=>(p.1,x p.2))=l.map λp=>(p.1,y p.2):=
 List.map_congr_left λp hp=>by rw[h p.2 (List.mem_map.2 ⟨p,hp,rfl⟩)]
theorem qgq{x y:Operand->AV}{o:Option Operand}(h:∀a∈o.toArray,x a=y a):o.map x=o.map y:=by
 cases o with
 |none=>rfl
 |some a=>simp only[qCt];rw[h a (by simp)]
theorem qsU{cfg:Cfg}{nid:Option Nat}{op:Op}{ty:TypeId}{x y:Operand->AV}(h:∀a∈op.operands,x a=y a):evOp cfg nid op ty x H=evOp cfg nid op ty y H:=by
 cases op with
 |move a|assign a|box _ a|load _ a|nilCheck a|unOp _ _ a|convert _ _ a|fieldAddr _ a _|field _ a _|extract a _=>
  have:=h a (by simp[Op.operands]);simp only[evOp,this]
 |pick c a b=>
  have h1:=h c (by simp[Op.operands]);have h2:=h a (by simp[Op.operands]);have h3:=h b (by simp[Op.operands]);simp only[evOp,h1,h2,h3]
 |store _ a b|binOp _ _ a b _|makeSlice _ a b|indexAddr _ a b|index _ a b|lookup _ a b _=>
  have h1:=h a (by simp[Op.operands]);have h2:=h b (by simp[Op.operands]);simp only[evOp,h1,h2]
 |mapUpdate _ a b c|insert _ a b c=>
  have h1:=h a (by simp[Op.operands]);have h2:=h b (by simp[Op.operands]);have h3:=h c (by simp[Op.operands]);simp only[evOp,h1,h2,h3]
 |makeMap _ r=>
  cases r with
  |none=>rfl
  |some a=>
   have h1:=h a (by simp[Op.operands]);simp only[evOp,h1]
 |build _ ps=>
  have:=qj7 (x:=x) (y:=y) (l:=ps.toList) (λa ha=>h a (by simp only[Op.operands,List.mem_toArray];exact ha));simp only[evOp,this]
 |buildSlice _ _ ps=>
  have:=qj7 (x:=x) (y:=y) (l:=ps.toList) (λa ha=>h a (by simp only[Op.operands,List.mem_toArray];exact ha));simp only[evOp,this]
 |makeFunc f p q=>
  have h1:=qgx (x:=x) (y:=y) (l:=p.toList) (λa ha=>h a (by simp only[Op.operands,Array.mem_append];exact .inl (Array.mem_toList_iff.1 ha)));have h2:=qgx (x:=x) (y:=y) (l:=q.toList) (λa ha=>h a (by simp only[Op.operands,Array.mem_append];exact .inr (Array.mem_toList_iff.1 ha)));simp only[evOp,h1,h2]
 |slice _ a l hi m=>
  have h1:=h a (by simp[Op.operands]);have h2:=qgq (x:=x) (y:=y) (o:=l) (λa ha=>h a (by simp only[Op.operands,Array.mem_append];simp[ha]));have h3:=qgq (x:=x) (y:=y) (o:=hi) (λa ha=>h a (by simp only[Op.operands,Array.mem_append];simp[ha]));have h4:=qgq (x:=x) (y:=y) (o:=m) (λa ha=>h a (by simp only[Op.operands,Array.mem_append];simp[ha]));simp only[evOp,h1,h2,h3,h4]
 |call c=>
  have hm:∀a∈c.args.toList,x a=y a:=λa ha=>h a (by simp only[Op.operands,Call.operands,Array.mem_append];exact .inr (Array.mem_toList_iff.1 ha))
  obtain⟨callee,args,argTypes⟩:=c;simp only at hm;simp only[evOp];generalize args.toList=l at hm;generalize argTypes.toList=ts;clear h;split
  ·rw[hm _ (by simp)]
  ·rw[hm _ (by simp)]
  ·rw[hm _ (by simp),hm _ (by simp)]
  ·rw[hm _ (by simp),hm _ (by simp)]
  ·rw[hm _ (by simp)]
  ·rw[hm _ (by simp),hm _ (by simp)]
  ·rw[hm _ (by simp),hm _ (by simp)]
  ·rfl
 |_=>rfl
theorem qgR{cfg:Cfg}{cf:Orac}{frz:Bool}{nid:Option Nat}{o:Oper}{x y:Operand->AV}(h:∀a∈o.op.operands,x a=y a):ve cfg cf frz nid o x H=ve cfg cf frz nid o y H:=by
 have hids:(o.op.operands.toList.flatMap λa=>(x a).msIds)=o.op.operands.toList.flatMap λa=>(y a).msIds:=by
  have:(o.op.operands.toList.map λa=>(x a).msIds)=o.op.operands.toList.map λa=>(y a).msIds:=List.map_congr_left λa ha=>by rw[h a (Array.mem_toList_iff.1 ha)]
  rw[List.flatMap_def,List.flatMap_def,this]
 have core:∀{x y:Operand->AV} {H:AH},(∀a∈o.op.operands,x a=y a) ->
   (match o.op with
    | .call c=>
     match c.callee with
     | .value f=>(yH (x f) (c.args.toList.map x)).bind λt=>xh cfg cf nid t.1 t.2 H
     |_=>evOp cfg nid o.op o.type x H
    |_=>evOp cfg nid o.op o.type x H) =
   (match o.op with
    | .call c=>
     match c.callee with
     | .value f=>(yH (y f) (c.args.toList.map y)).bind λt=>xh cfg cf nid t.1 t.2 H
     |_=>evOp cfg nid o.op o.type y H
    |_=>evOp cfg nid o.op o.type y H):=by
  intro x y H h;rw[qsU h];split
  ·rename_i c ho;split
   ·rename_i f hf;have h1:x f=y f:=h f (by rw[ho];simp[Op.operands,Call.operands,hf]);have h2:=qgx (x:=x) (y:=y) (l:=c.args.toList) (λa ha=>h a (by rw[ho];simp only[Op.operands,Call.operands,Array.mem_append];exact .inr (Array.mem_toList_iff.1 ha)));rw[h1,h2]
   ·rfl
  ·rfl
 unfold ve;cases frz with
 |false=>simp only[qCg,if_false];exact core h
 |true=>
  simp only[if_true];rw[hids];exact core (λa ha=>by rw[h a ha])
theorem yU{id:Nat}(h:H2[id]? =H[id]?):q5 H2 id=q5 H id:=by unfold q5;rw[h]
theorem qdP{id:Nat}(h:H2[id]? =H[id]?):xx H2 id=xx H id:=by unfold xx;rw[h]
theorem qpV{p:AV}(h:∀id∈p.hid,H2[id]? =H[id]?):xD H2 p=xD H p:=by
 cases p with
 |ms id off len=>simp only[xD];rw[qdP (h id (by simp[AV.hid]))]
 |_=>rfl
theorem qqR{cfg:Cfg}{t:TypeId}{p k:AV}{ok:Bool}(h:∀id∈p.hid,H2[id]? =H[id]?):qah cfg t p k ok H2=qah cfg t p k ok H:=by
 have:qdj H2 p=qdj H p:=by
  unfold qdj;split
  ·rfl
  ·rename_i id;rw[h id (by simp[AV.hid])]
  ·rfl
 unfold qah;rw[this]
theorem qvm{agg:Bool}{n:Nat}{p:AV}(h:∀id∈p.hid,H2[id]? =H[id]?):zt agg n H2 p=zt agg n H p:=by
 unfold zt;split
 ·rename_i id r off;rw[yU (h id (by simp[AV.hid]))]
 ·rfl
 ·rfl
 ·rename_i id cs off;rw[h id (by simp[AV.hid])]
 ·rfl
theorem qjS{n:Nat}{p:AV}(h:∀id∈p.hid,H2[id]? =H[id]?):yd H2 n p=yd H n p:=by
 unfold yd;split
 ·rfl
 ·rfl
 ·rfl
 ·rename_i id off len;rw[yU (h id (by simp[AV.hid]))]
 ·rfl
theorem qpU{n:Nat}{p:AV}(h:∀id∈p.hid,H2[id]? =H[id]?):x7 H2 n p=x7 H n p:=by
 unfold x7;split
 ·rfl
 ·exact qjS h
theorem qmd{cfg:Cfg}{t:TypeId}{p i:AV}(h:∀id∈p.hid,H2[id]? =H[id]?):yi cfg t H2 p i=yi cfg t H p i:=by
 unfold yi;split
 ·rename_i id _ _ _ _ _;rw[yU (h id (by simp[AV.hid]))]
 all_goals rfl
theorem qoS{p:AV}{id:Nat}(h:id∈p.unwr.hid):id∈p.hid:=by
 cases p with
 |wr n v=>cases v<;>first|exact h|(simp[AV.unwr,AV.hid]at h)
 |_=>exact h
theorem qth{cfg:Cfg}{t:TypeId}{p:AV}{lo hi mx:Option AV}(h:∀id∈p.hid,H2[id]? =H[id]?):qbg cfg t H2 p lo hi mx=qbg cfg t H p lo hi mx:=by
 unfold qbg;split
 ·rfl
 ·rfl
 ·rfl
 ·rename_i id off len _;rw[yU (h id (by simp[AV.hid]))]
 ·rfl
 ·rfl
theorem qwZ{cfg:Cfg}{t:TypeId}{p:AV}(h:∀id∈p.hid,H2[id]? =H[id]?):aLen cfg t p H2=aLen cfg t p H:=by
 unfold aLen;split<;>first|rfl|skip
 rename_i id _;rw[h id (by simp[AV.hid])]
theorem qdd{p:AV}(h:∀id∈p.hid,H2[id]? =H[id]?):p.snap1 H2=p.snap1 H:=by
 cases p with
 |ms id off len=>simp only[AV.snap1,AV.frz1];rw[yU (h id (by simp[AV.hid])),qdP (h id (by simp[AV.hid]))]
 |ptr id r off=>simp only[AV.snap1];rw[yU (h id (by simp[AV.hid]))]
 |rsl id rows=>simp only[AV.snap1];rw[h id (by simp[AV.hid])]
 |_=>rfl
theorem qeG{l:List AV}(h:∀id∈l.flatMap AV.hid,H2[id]? =H[id]?):l.map (AV.snap1 H2)=l.map (AV.snap1 H):=
 List.map_congr_left λp hp=>qdd λid hi=>h id (List.mem_flatMap.2 ⟨p,hp,hi⟩)
theorem qvX{p:AV}(h:∀id∈p.hids,H2[id]? =H[id]?):p.snap H2=p.snap H:=by
 cases p with
 |agg cs=>simp only[AV.snap];rw[qeG (λid hi=>h id (by simpa [AV.hids]using hi))]
 |fn f a b=>simp only[AV.snap];rw[qeG (λid hi=>h id (by simp only[AV.hids,qCy];exact .inl hi)),qeG (λid hi=>h id (by simp only[AV.hids,qCy];exact .inr hi))]
 |ms id off len=>exact qdd (p:=.ms id off len) h
 |ptr id r off=>exact qdd (p:=.ptr id r off) h
 |rsl id rows=>exact qdd (p:=.rsl id rows) h
 |_=>rfl
def Upd(wr:List Nat)(H2 H' H2':AH):Prop:=H2'.length=H2.length∧∀id,H2'[id]? =if id∈wr then H'[id]? else H2[id]?
theorem Upd.same{wr:List Nat}(h:∀id∈wr,H2[id]? =H[id]?):Upd wr H2 H H2:=⟨rfl,λid=>by
 split
 ·rename_i hi;exact h id hi
 ·rfl⟩
theorem Upd.set{wr:List Nat}(h:∀id∈wr,H2[id]? =H[id]?)(hl:H2.length=H.length){k:Nat}{b:ABlk}(hk:k∈wr):Upd wr H2 (H.set k b) (H2.set k b):=⟨by simp,λid=>by
 by_cases e:k=id
 ·subst e;rw[qCM hk,qCn,qCn,qCM rfl,qCM rfl,hl]
 ·rw[qCn,qCN e,qCn,qCN e];split
  ·rename_i hi;exact h id hi
  ·rfl⟩
theorem xz{g g2:Option AV}{r:AV}{wr:List Nat}(he:(g.map λv=>(v,H))=some (r,H'))(hg:g2=g)(h:∀id∈wr,H2[id]? =H[id]?):∃H2',(g2.map λv=>(v,H2))=some (r,H2')∧Upd wr H2 H' H2':=by
 subst hg;obtain⟨v,hv,e⟩:=qCb.1 he;cases e;exact⟨H2,by rw[hv];rfl,Upd.same h⟩
theorem qaM{at_ k:Nat}{b:ABlk}{wr:List Nat}(hn:aNew (some at_) H b=some (k,H'))(h:∀id∈wr,H2[id]? =H[id]?)(hl:H2.length=H.length)(hk:at_∈wr):∃H2',aNew (some at_) H2 b=some (k,H2')∧Upd wr H2 H' H2':=by
 unfold aNew at hn⊢;simp only at hn⊢;rw[h _ hk];split at hn
 ·cases hn;exact⟨_,rfl,Upd.set h hl hk⟩
 ·cases hn
variable {H H' H2 : AH}
theorem Upd.of_set{wr:List Nat}{k:Nat}{b:ABlk}{H2':AH}(h:Upd wr (H2.set k b) H' H2')(hk:k∈wr):Upd wr H2 H' H2':=⟨by rw[h.1];simp,λid=>by
 rw[h.2 id];split
 ·rfl
 ·rename_i hi;rw[qCn,qCN];intro e;subst e;exact hi hk⟩
theorem qpq{n:Nat}{p v:AV}(he:zg n H p v=some H')(h:∀id∈p.hid,H2[id]? =H[id]?)(hl:H2.length=H.length):∃H2',zg n H2 p v=some H2'∧Upd p.hid H2 H' H2':=by
 unfold zg at he⊢;split at he
 ·rename_i id r off cs hv;have hid:id∈(AV.ptr id r off).hid:=by simp[AV.hid]
  rw[h id hid];split at he
  ·rename_i sz rs _;split at he
   ·rename_i row hrow;split at he
    ·rename_i hc;cases he;simp only[hc,if_true];exact⟨_,rfl,Upd.set h hl hid⟩
    ·cases he
   ·cases he
  ·cases he
 ·rename_i id cs off cs' hv;have hid:id∈(AV.rpt id cs off).hid:=by simp[AV.hid]
  rw[h id hid];split at he
  ·split at he
   ·rename_i hc;cases he;rw[qCM hc];exact⟨_,rfl,Upd.same h⟩
   ·rename_i hc0;split at he
    ·rename_i hc;cases he;rw[qCN hc0,qCM hc];exact⟨_,rfl,Upd.same h⟩
    ·cases he
  ·cases he
 ·cases he
theorem qmf{cfg:Cfg}{at_:Nat}{s d:TypeId}{x r:AV}{wr:List Nat}(he:yW cfg (some at_) s d x H=some (r,H'))(h:∀id∈x.hid,H2[id]? =H[id]?)(hwr:∀id∈wr,H2[id]? =H[id]?)(hl:H2.length=H.length)(hk:at_∈wr):
  ∃H2',yW cfg (some at_) s d x H2=some (r,H2')∧Upd wr H2 H' H2':=by
 unfold yW at he⊢;split at he
 ·cases he;exact⟨H2,rfl,Upd.same hwr⟩
 ·cases he;exact⟨H2,rfl,Upd.same hwr⟩
 ·rename_i sd e t hs hd;split at he
  ·rename_i hte;split at he
   ·rename_i k H1 hnew;cases he;obtain⟨H2',e1,e2⟩:=qaM hnew hwr hl hk;simp only[e1];exact⟨H2',rfl,e2⟩
   ·cases he
  ·cases he
 ·rename_i e hs hd hne;split at he
  ·rename_i rows hte hrows;rw[qjS h];split at he
   ·rename_i bs hbs;cases he;exact⟨H2,by simp only[hte,hrows,hbs],Upd.same hwr⟩
   ·cases he
  ·cases he
 ·cases he
theorem qiG{cfg:Cfg}{at_:Nat}{t:TypeId}{l c r:AV}{wr:List Nat}(he:qbO cfg (some at_) t l c H=some (r,H'))(hwr:∀id∈wr,H2[id]? =H[id]?)(hl:H2.length=H.length)(hk:at_∈wr):
  ∃H2',qbO cfg (some at_) t l c H2=some (r,H2')∧Upd wr H2 H' H2':=by
 unfold qbO at he⊢;split at he
 ·split at he
  ·split at he
   ·rename_i h1;split at he
    ·rename_i h2;split at he
     ·rename_i k H1 hnew;cases he;obtain⟨H2',e1,e2⟩:=qaM hnew hwr hl hk;simp only[h1,if_true,h2,e1];exact⟨H2',by simp,e2⟩
     ·cases he
    ·cases he
   ·cases he
  ·cases he
 ·cases he
theorem qpt{cfg:Cfg}{at_:Nat}{t:TypeId}{l c r:AV}{wr:List Nat}(he:qao cfg (some at_) t l c H=some (r,H'))(hwr:∀id∈wr,H2[id]? =H[id]?)(hl:H2.length=H.length)(hk:at_∈wr):
  ∃H2',qao cfg (some at_) t l c H2=some (r,H2')∧Upd wr H2 H' H2':=by
 unfold qao at he⊢;split at he
 ·exact qiG he hwr hl hk
 ·split at he
  ·split at he
   ·rename_i hn;rw[qCM hn];obtain⟨q,hq,hw⟩:=qB6.1 he;obtain⟨v,H1⟩:=q;obtain⟨H2',e1,e2⟩:=qiG hq hwr hl hk;rw[e1];unfold qrB at hw;split at hw
    ·rename_i id off len H0 e;cases e;cases hw;exact⟨H2',rfl,e2⟩
    ·cases hw
   ·cases he
  ·cases he
theorem qnh{cfg:Cfg}{at_:Nat}{t xt:TypeId}{s x r:AV}{wr:List Nat}(he:qaQ cfg (some at_) t xt s x H=some (r,H'))(hx:∀id∈x.hid,H2[id]? =H[id]?)(hwr:∀id∈wr,H2[id]? =H[id]?)(hl:H2.length=H.length)(hk:at_∈wr)(hs:∀id∈s.hid,id∈wr):∃H2',qaQ cfg (some at_) t xt s x H2=some (r,H2')∧Upd wr H2 H' H2':=by
 unfold qaQ at he⊢;split at he
 case h_2=>cases he
 split at he
 case h_2=>cases he
 split at he
 case isFalse=>cases he
 rename_i h1;rw[qCM h1,qpU hx,qpV hx];split at he
 case h_2=>cases he
 split at he
 ·split at he
  ·rename_i h2;cases he;rw[qCM h2];exact⟨H2,rfl,Upd.same hwr⟩
  ·rename_i h2;rw[qCN h2];split at he
   ·rename_i h3;rw[qCM h3];split at he
    ·rename_i k H1 hnew;cases he;obtain⟨H2',e1,e2⟩:=qaM hnew hwr hl hk;simp only[e1];exact⟨H2',rfl,e2⟩
    ·cases he
   ·cases he
 ·rename_i id off len;have hid:id∈wr:=hs id (by simp[AV.hid]);rw[hwr id hid];split at he
  ·rename_i sz rs _;split at he
   ·rename_i h2;rw[qCM h2];split at he
    ·rename_i k H1 hnew;cases he;obtain⟨H2',e1,e2⟩:=qaM (H2:=H2.set id .dead) hnew (λj hj=>by
      rw[qCn,qCn];split
      ·rw[hl]
      ·exact hwr j hj) (by simpa using hl) hk
     simp only[e1];exact⟨H2',rfl,e2.of_set hid⟩
    ·cases he
   ·cases he
  ·cases he
 ·cases he
theorem qj1{at_:Nat}{G:AH}{a r:AV}(he:yB (some at_) G a H=some (r,H'))(hl:H2.length=H.length)(hwr:∀id∈[at_],H2[id]? =H[id]?):∃H2',yB (some at_) G a H2=some (r,H2')∧Upd [at_] H2 H' H2':=by
 unfold yB at he⊢;split at he
 ·split at he
  ·split at he
   ·rename_i h2;rw[qCM h2];split at he
    ·rename_i k H1 hnew;cases he;obtain⟨H2',e1,e2⟩:=qaM hnew hwr hl (by simp);simp only[e1];exact⟨H2',rfl,e2⟩
    ·cases he
   ·cases he
  ·cases he
 ·split at he
  ·rename_i h2;cases he;rw[qCM h2];exact⟨H2,rfl,Upd.same hwr⟩
  ·cases he
theorem Upd.mono{wr wr':List Nat}{H2':AH}(h:Upd wr H2 H' H2')(hs:∀id∈wr,id∈wr')(hr:∀id∈wr',H2[id]? =H'[id]? ∨id∈wr):Upd wr' H2 H' H2':=⟨h.1,λid=>by
 rw[h.2 id]
 by_cases hi:id∈wr
 ·rw[qCM hi,qCM (hs id hi)]
 ·rw[qCN hi]
  by_cases hi':id∈wr'
  ·rw[qCM hi'];exact(hr id hi').resolve_right hi
  ·rw[qCN hi']⟩
theorem qpm{cfg:Cfg}{cf:Orac}{at_:Nat}{t:Tgt}{args:List AV}{r:AV}(he:vj cfg cf (some at_) t args H=some (r,H'))(hw:(qag cfg at_ t args H).wall=false)(hl:H2.length=H.length)(hr:∀id∈(qag cfg at_ t args H).rd,H2[id]? =H[id]?)(hwr:∀id∈(qag cfg at_ t args H).wr,H2[id]? =H[id]?):∃H2',vj cfg cf (some at_) t args H2=some (r,H2')∧Upd (qag cfg at_ t args H).wr H2 H' H2':=by
 cases t with
 |y id=>simp[qag]at hw
 |f f=>
  simp only[qag,vj]at *;cases hm:cfg.mode f with
  |scal=>
   simp only[hm]at *;have hs:(args.map λa=>(a.snap H2).fg)=(args.map λa=>(a.snap H).fg):=List.map_congr_left λp hp=>by rw[qvX λid hi=>hr id (List.mem_flatMap.2 ⟨p,hp,hi⟩)]
   rw[hs];split at he
   case isFalse=>cases he
   rename_i h1;rw[qCM h1];obtain⟨q,hq,he⟩:=qB6.1 he;rw[hq];split at he
   case isFalse=>cases he
   rename_i h2;cases he;exact⟨H2,by simp[h2],Upd.same hwr⟩
  |pfrz=>
   simp only[hm]at *;split at he
   case isFalse=>cases he
   rename_i h1;rw[qCM h1];obtain⟨q,hq,he⟩:=qB6.1 he;rw[hq];split at he
   case isFalse=>cases he
   rename_i h2;cases he;exact⟨H2,by simp[h2],Upd.same (λid hi=>by simp[FP.none]at hi)⟩
  |pown=>
   simp only[hm]at *;split at he
   case isFalse=>cases he
   rename_i h1;rw[qCM h1];obtain⟨q,hq,he⟩:=qB6.1 he;rw[hq];simp only[qCe];unfold qcU at he⊢;split at he
   ·split at he
    case isFalse=>cases he
    rename_i hsc;rw[qCM hsc];obtain⟨p,hp,hpe⟩:=qCb.1 he;cases hpe;obtain⟨H2',e1,e2⟩:=qj1 hp hl hwr;rw[e1];exact⟨H2',rfl,e2⟩
   ·exact qj1 he hl hwr
  |slf=>
   simp only[hm]at *;split at he
   case h_2=>cases he
   rename_i id l hids;simp only[hids]at hwr⊢;split at he
   case isFalse=>cases he
   rename_i h1;rw[qCM h1,hwr id (by simp)];split at he
   case h_2=>cases he
   rename_i d sz rs hid
   try simp only[hid]
   split at he
   case isFalse=>cases he
   rename_i h2;rw[qCM h2];obtain⟨q,hq,he⟩:=qB6.1 he;rw[hq];obtain⟨p,hp,hpe⟩:=qCb.1 he;cases hpe;exact⟨H2.set id (.rows false sz (renR (λ_=>id) p.2)),by simp[hp],Upd.set hwr hl (by simp)⟩
  |imp=>simp[hm]at hw
  |inpl=>
   simp only[hm]at *;split at he
   case h_2=>
    rename_i hids;simp only[hids]at hwr⊢;split at he
    case isFalse=>cases he
    rename_i h1;rw[qCM h1];obtain⟨q,hq,he⟩:=qB6.1 he;rw[hq];split at he
    case isFalse=>cases he
    rename_i h2;cases he;exact⟨H2,by simp[h2],Upd.same hwr⟩
   rename_i id l hids;simp only[hids]at hwr⊢;split at he
   case isFalse=>cases he
   rename_i h1;rw[qCM h1,hwr id (by simp)];split at he
   case h_2=>cases he
   rename_i d sz rs hid
   try simp only[hid]
   split at he
   case isFalse=>cases he
   rename_i h2;rw[qCM h2];obtain⟨q,hq,he⟩:=qB6.1 he;rw[hq];obtain⟨p,hp,hpe⟩:=qCb.1 he;cases hpe;exact⟨H2.set id (.rows true sz p.2),by simp[hp],Upd.set hwr hl (by simp)⟩
  |inpf=>
   simp only[hm]at *;split at he
   case h_2=>cases he
   rename_i id l hids;simp only[hids]at hwr⊢;split at he
   case isFalse=>cases he
   rename_i h1;rw[qCM h1,hwr id (by simp)];split at he
   case h_2=>cases he
   rename_i d sz rs hid
   try simp only[hid]
   split at he
   case isFalse=>cases he
   rename_i h2;rw[qCM h2];obtain⟨q,hq,he⟩:=qB6.1 he;rw[hq];obtain⟨p,hp,hpe⟩:=qCb.1 he;cases hpe;exact⟨H2.set id (.rows true sz p.2),by simp[hp],Upd.set hwr hl (by simp)⟩
  |ifrz=>simp[hm]at hw
theorem qqL{cfg:Cfg}{cf:Orac}{at_:Nat}{t:Tgt}{args:List AV}{r:AV}(he:xh cfg cf (some at_) t args H=some (r,H'))(hw:(qc1 cfg at_ t args H).wall=false)(hl:H2.length=H.length)(hr:∀id∈(qc1 cfg at_ t args H).rd,H2[id]? =H[id]?)(hwr:∀id∈(qc1 cfg at_ t args H).wr,H2[id]? =H[id]?):∃H2',xh cfg cf (some at_) t args H2=some (r,H2')∧Upd (qc1 cfg at_ t args H).wr H2 H' H2':=by
 unfold qc1 at hw hr hwr⊢;unfold xh at he⊢;cases hn:zw cfg t args with
 |some n=>rw[hn]at hw;cases hw
 |none=>
  rw[hn]at hw hr hwr he;exact qpm he hw hl hr hwr
theorem qwH{ids:List Nat}{a:AV}(h:∀id∈ids,H2[id]? =H[id]?):a.frz1 ids H2=a.frz1 ids H:=by
 cases a with
 |ms id off len=>
  by_cases hi:id∈ids
  ·simp only[AV.frz1,yU (h id hi),qdP (h id hi)]
  ·have hn:xI id ids=false:=by rw[←Bool.not_eq_true,vC];exact hi
   simp only[AV.frz1,hn,Bool.false_and,qCg,if_false];cases q5 H2 id<;>cases q5 H id<;>rfl
 |_=>rfl
theorem qlO{ids:List Nat}{a:AV}(h:∀id∈ids,H2[id]? =H[id]?):a.frz ids H2=a.frz ids H:=by
 have:AV.frz1 ids H2=AV.frz1 ids H:=funext λ_=>qwH h
 cases a<;>simp only[AV.frz,this]
theorem qaf{H:AH}{i id:Nat}:(vQ H i)[id]? =if i=id then(match H[id]? with|some (.rows d sz rs)=>some (.froz d sz rs)|b=>b)else H[id]? :=by
 unfold vQ;split
 ·rename_i d sz rs hi;rw[qCn]
  by_cases e:i=id
  ·subst e;have:=(qB5.1 hi).1;rw[qCM rfl,qCM this,qCM rfl,hi]
  ·rw[qCN e,qCN e]
 ·rename_i hn
  by_cases e:i=id
  ·subst e;rw[qCM rfl];split
   ·rename_i d sz rs hi;exact absurd hi (hn d sz rs)
   ·rfl
  ·rw[qCN e]
theorem qdL:∀(ids:List Nat) {H H2:AH},(∀id∈ids,H2[id]? =H[id]?)->∀id,(qQ ids H2)[id]? =if id∈ids then(qQ ids H)[id]? else H2[id]?
 |[],H,H2,_,id=>by simp[qQ]
 |i::l,H,H2,h,id=>by
  have hi:=h i (by simp);have ih:=qdL l (H:=vQ H i) (H2:=vQ H2 i) (λj hj=>by
   rw[qaf,qaf,h j (by simp[hj])]) id
  have e1:qQ (i::l) H2=qQ l (vQ H2 i):=rfl;have e2:qQ (i::l) H=qQ l (vQ H i):=rfl;rw[e1,e2,ih]
  by_cases hl:id∈l
  ·rw[qCM hl,qCM (by simp[hl])]
  ·rw[qCN hl]
   by_cases e:id=i
   ·subst e;have hk:∀(l:List Nat) (H:AH),id ∉ l->(qQ l H)[id]? =H[id]? :=by
     intro l
     induction l with
     |nil=>intro H _;rfl
     |cons j l ih=>
      intro H hn;show(qQ l (vQ H j))[id]? =_;rw[ih _ (λhm=>hn (by simp[hm])),qaf,qCN (λe=>hn (by simp[e]))]
    rw[qCM (by simp),hk l _ hl,qaf,qaf,hi]
   ·rw[qCN (by simp[hl,e]),qaf,qCN (λh=>e h.symm)]
theorem qc8{cfg:Cfg}{cf:Orac}{frz:Bool}{at_:Nat}{o:Oper}{x:Operand->AV}{r:AV}(he:ve cfg cf frz (some at_) o x H=some (r,H'))(hw:(yg cfg frz at_ o x H).wall=false)(hl:H2.length=H.length)(hr:∀id∈(yg cfg frz at_ o x H).rd,H2[id]? =H[id]?)(hwr:∀id∈(yg cfg frz at_ o x H).wr,H2[id]? =H[id]?):∃H2',ve cfg cf frz (some at_) o x H2=some (r,H2')∧Upd (yg cfg frz at_ o x H).wr H2 H' H2':=by
 obtain⟨dst,op,ty,pos,after,guard⟩:=o;cases frz with
 |true=>
  unfold yg at hw hwr⊢;simp only[if_true]at hw hwr⊢;unfold ve at he⊢;simp only[if_true]at he⊢;cases op with
  |build t parts=>
   simp only at hw hwr he⊢;have hx:(λa=>(x a).frz ((Op.build t parts).operands.toList.flatMap λa=>(x a).msIds) H2)=λa=>(x a).frz ((Op.build t parts).operands.toList.flatMap λa=>(x a).msIds) H:=funext λa=>qlO hwr
   rw[hx];have hup:Upd ((Op.build t parts).operands.toList.flatMap λa=>(x a).msIds) H2 (qQ ((Op.build t parts).operands.toList.flatMap λa=>(x a).msIds) H) (qQ ((Op.build t parts).operands.toList.flatMap λa=>(x a).msIds) H2):=
    ⟨qbK _ _,qdL _ hwr⟩
   generalize (Op.build t parts).operands.toList.flatMap (λa=>(x a).msIds)=ids at *;simp only[evOp]at *;split at he
   ·split at he
    ·rename_i h1;rw[qCM h1];split at he
     ·split at he
      ·obtain⟨cs,hcs,e⟩:=qCb.1 he;cases e;rw[hcs];exact⟨_,rfl,hup⟩
      ·cases he
     ·split at he
      ·obtain⟨cs,hcs,e⟩:=qCb.1 he;cases e;rw[hcs];exact⟨_,rfl,hup⟩
      ·cases he
     ·cases he
    ·cases he
   ·cases he
  |call c=>
   obtain⟨callee,args,argTypes⟩:=c;cases callee with
   |value f=>
    simp only at hw hwr he⊢;split at hw
    case h_2=>simp at hw
    rename_i h al ht;simp only[ht]at hwr⊢;cases hm:cfg.mode h with
    |pfrz=>
     simp only[hm]at hwr⊢;have hx:(λa=>(x a).frz ((Op.call ⟨.value f,args,argTypes⟩).operands.toList.flatMap λa=>(x a).msIds) H2)=λa=>(x a).frz ((Op.call ⟨.value f,args,argTypes⟩).operands.toList.flatMap λa=>(x a).msIds) H:=funext λa=>qlO hwr
     have hup:Upd ((Op.call ⟨.value f,args,argTypes⟩).operands.toList.flatMap λa=>(x a).msIds) H2 (qQ ((Op.call ⟨.value f,args,argTypes⟩).operands.toList.flatMap λa=>(x a).msIds) H) (qQ ((Op.call ⟨.value f,args,argTypes⟩).operands.toList.flatMap λa=>(x a).msIds) H2):=
      ⟨qbK _ _,qdL _ hwr⟩
     have hxa:∀a,(x a).frz ((Op.call ⟨.value f,args,argTypes⟩).operands.toList.flatMap λa=>(x a).msIds) H2=(x a).frz ((Op.call ⟨.value f,args,argTypes⟩).operands.toList.flatMap λa=>(x a).msIds) H:=λa=>qlO hwr
     rw[hxa,hx];clear hxa hx hwr hr hw;generalize (Op.call ⟨.value f,args,argTypes⟩).operands.toList.flatMap (λa=>(x a).msIds)=ids at *;have hxf:(x f).frz ids H=x f:=by
      unfold yH at ht;split at ht
      ·rename_i hx;rw[hx];rfl
      ·simp at ht
      ·cases ht
     rw[hxf]at he⊢;obtain⟨t2,ht2,he⟩:=qB6.1 he;rw[ht2];have htf:t2.1= .f h:=by
      unfold yH at ht ht2;split at ht
      ·rename_i hx;rw[hx]at ht2;simp only[Option.some.injEq,Prod.mk.injEq]at ht ht2;rw[←ht2];exact ht.1
      ·simp at ht
      ·cases ht
     obtain⟨t2a,t2b⟩:=t2;simp only at htf;subst htf;simp only[qCe,xh,zw,vj,hm]at he⊢;split at he
     case isFalse=>cases he
     rename_i h1;rw[qCM h1];obtain⟨q,hq,he⟩:=qB6.1 he;rw[hq];simp only[qCe]at he⊢;split at he
     case isFalse=>cases he
     rename_i h2;cases he;exact⟨_,by rw[qCM h2],hup⟩
    |_=>simp[hm]at hw
   |_=>simp at hw
  |_=>simp at hw
 |false=>
  unfold ve at he⊢;simp only[qCg,if_false]at he⊢;unfold yg at hw hr hwr⊢;simp only[qCg,if_false]at hw hr hwr⊢;cases op with
  |move a=>simp only[evOp]at *;cases he;exact⟨H2,rfl,Upd.same hwr⟩
  |assign a=>simp only[evOp]at *;cases he;exact⟨H2,rfl,Upd.same hwr⟩
  |pick c a b=>
   simp only[evOp]at *;split at he
   ·cases he;exact⟨H2,rfl,Upd.same hwr⟩
   ·cases he
  |alloc t=>
   simp only[evOp]at *;split at he
   ·split at he
    ·rename_i h1;rw[qCM h1];split at he
     ·rename_i k H1 hnew;cases he;obtain⟨H2',e1,e2⟩:=qaM hnew hwr hl (by simp);simp only[e1];exact⟨H2',rfl,e2⟩
     ·cases he
    ·cases he
   ·cases he
  |box t a=>
   simp only[evOp]at *;split at he
   ·split at he
    ·rename_i k H1 hnew;cases he;obtain⟨H2',e1,e2⟩:=qaM hnew hwr hl (by simp);simp only[e1];exact⟨H2',rfl,e2⟩
    ·cases he
   ·cases he
  |build t parts=>
   simp only[evOp]at *;split at he
   ·split at he
    ·rename_i h1;rw[qCM h1];split at he
     ·split at he
      ·obtain⟨cs,hcs,e⟩:=qCb.1 he;cases e;rw[hcs];exact⟨H2,rfl,Upd.same hwr⟩
      ·cases he
     ·split at he
      ·obtain⟨cs,hcs,e⟩:=qCb.1 he;cases e;rw[hcs];exact⟨H2,rfl,Upd.same hwr⟩
      ·cases he
     ·cases he
    ·cases he
   ·cases he
  |buildSlice t len parts=>
   simp only[evOp]at *;split at he
   ·split at he
    ·split at he
     ·rename_i h1;rw[qCM h1];split at he
      ·split at he
       ·rename_i k H1 hnew;cases he;obtain⟨H2',e1,e2⟩:=qaM hnew hwr hl (by simp);simp only[e1];exact⟨H2',rfl,e2⟩
       ·cases he
      ·cases he
     ·cases he
    ·cases he
   ·cases he
  |load t a=>
   simp only[evOp]at *;split at he
   ·exact xz he (qvm hr) hwr
   ·cases he
  |store t a v=>
   simp only[evOp]at *;split at he
   ·obtain⟨H1,h1,e⟩:=qCb.1 he;cases e;obtain⟨H2',e1,e2⟩:=qpq h1 hwr hl;rw[e1];exact⟨H2',rfl,e2⟩
   ·cases he
  |nilCheck a=>
   simp only[evOp]at *;split at he<;>first|(cases he;exact⟨H2,rfl,Upd.same hwr⟩)|cases he
  |binOp op t a b yt=>simp only[evOp]at *;exact xz he rfl hwr
  |unOp op t a=>simp only[evOp]at *;exact xz he rfl hwr
  |convert s d a=>simp only[evOp]at *;exact qmf he hr hwr hl (by simp)
  |makeFunc f first caps=>simp only[evOp]at *;cases he;exact⟨H2,rfl,Upd.same hwr⟩
  |makeSlice t l c=>simp only[evOp]at *;exact qpt he hwr hl (by simp)
  |slice t a lo hi mx=>simp only[evOp]at *;exact xz he (qth hr) hwr
  |fieldAddr t a f=>simp only[evOp]at *;exact xz he rfl hwr
  |field t a f=>simp only[evOp]at *;exact xz he rfl hwr
  |indexAddr t a i=>simp only[evOp]at *;exact xz he (qmd λid hi=>hr id (qoS hi)) hwr
  |index t a i=>simp only[evOp]at *;exact xz he rfl hwr
  |extract t i=>
   simp only[evOp]at *;split at he
   ·exact xz he rfl hwr
   ·cases he
  |call c=>
   obtain⟨callee,args,argTypes⟩:=c;cases callee with
   |value f=>
    simp only at *;obtain⟨t,ht,he⟩:=qB6.1 he;simp only[ht]at hw hr hwr⊢;exact qqL he hw hl hr hwr
   |invoke rv nm=>simp at hw
   |builtin b=>
    simp only[evOp]at he⊢;simp only at hw hr hwr;generalize args.toList=al at *;generalize argTypes.toList=tl at *;split at he
    ·rename_i hb;cases hb;exact xz he (qwZ λid hi=>hr id (qoS hi)) hwr
    ·rename_i hb;cases hb;exact xz he rfl hwr
    ·rename_i hb;cases hb;exact qnh he hr hwr hl (by simp) (λid hi=>by simp[hi])
    ·rename_i hb;cases hb;simp at hw
    ·rename_i hb;cases hb;simp at hw
    ·rename_i hb;cases hb;exact xz he rfl hwr
    ·rename_i hb;cases hb;exact xz he rfl hwr
    ·cases he
  |makeMap t rv=>simp at hw
  |lookup t a k ok=>
   simp only[evOp]at *;exact xz he (qqR hr) hwr
  |mapUpdate t m k v=>simp at hw
  |insert t m k v=>simp at hw
  |_=>simp only[evOp]at he;cases he
variable {C C' C1 C2 : qu} {μ μ' μ1 : MMap} {H H' H1 H2 : AH} {w w' w1 : World} {P : Program}
theorem qe1{at_ k:Nat}{r r':AV}(h:xB (some at_) k r H=some (r',H')):H'.length=k:=by
 unfold xB at h;split at h
 ·simp only at h;split at h
  ·rename_i hb;cases h;exact qB9 hb
  ·cases h
 ·cases h
theorem qiF{cfg:Cfg}{t:TypeId}{m k v:AV}(h:qaP cfg t m k v H=some H'):H'.length=H.length:=by
 unfold qaP at h;split at h
 ·split at h
  ·split at h
   ·split at h
    ·cases h;simp
    ·cases h;simp
    ·cases h
   ·cases h
  ·cases h
 ·cases h
theorem qnb{cfg:Cfg}{cf:Orac}{at_ n:Nat}{t:Tgt}{args:List AV}{r:AV}(hn:zw cfg t args=some n)(he:xh cfg cf (some at_) t args H=some (r,H')):H'.length=H.length:=by
 unfold zw at hn;split at hn<;>cases hn
theorem qsT{cfg:Cfg}{cf:Orac}{frz:Bool}{at_:Nat}{o:Oper}{x:Operand->AV}{r:AV}(he:ve cfg cf frz (some at_) o x H=some (r,H')):H'.length=H.length:=by
 have core:∀{x:Operand->AV} {H:AH},ve cfg cf false (some at_) o x H=some (r,H')->H'.length=H.length:=by
  intro x H he;cases hw:(yg cfg false at_ o x H).wall with
  |false=>
   obtain⟨H2',e1,e2⟩:=qc8 (H2:=H) he hw rfl (λ_ _=>rfl) (λ_ _=>rfl);rw[he]at e1;cases e1;exact e2.1
  |true=>
   obtain⟨dst,op,ty,pos,after,guard⟩:=o;unfold ve at he;simp only[qCg,if_false]at he;unfold yg at hw;simp only[qCg,if_false]at hw;cases op with
   |call c=>
    obtain⟨callee,args,argTypes⟩:=c;cases callee with
    |value f=>
     simp only at *;obtain⟨t,ht,he⟩:=qB6.1 he;simp only[ht]at hw;cases hn:zw cfg t.1 t.2 with
     |some n=>exact qnb hn he
     |none=>?_
     replace he:vj cfg cf (some at_) t.1 t.2 H=some (r,H'):=by unfold xh at he;rw[hn]at he;exact he
     replace hw:(qag cfg at_ t.1 t.2 H).wall=true:=by unfold qc1 at hw;rw[hn]at hw;exact hw
     cases ht1:t.1 with
     |y id=>
      rw[ht1]at he;simp only[vj]at he;obtain⟨q,_,he⟩:=qB6.1 he;exact qe1 he
     |f g=>
      rw[ht1]at he hw;simp only[vj,qag]at he hw;cases hm:cfg.mode g with
      |scal=>simp[hm]at hw
      |pfrz=>simp[hm,FP.none]at hw
      |pown=>simp[hm]at hw
      |inpl=>simp[hm]at hw
      |inpf=>simp[hm]at hw
      |slf=>simp[hm]at hw
      |imp=>
       simp only[hm]at he;obtain⟨q,_,he⟩:=qB6.1 he;exact qe1 he
      |ifrz=>
       simp only[hm]at he;obtain⟨q,_,he⟩:=qB6.1 he;exact qe1 he
    |invoke rv nm=>simp only[evOp]at he;cases he
    |builtin b=>
     simp only[evOp]at he;simp only at hw;generalize args.toList=al at *;generalize argTypes.toList=tl at *;split at he
     ·rename_i hb;cases hb;simp at hw
     ·rename_i hb;cases hb;simp[FP.none]at hw
     ·rename_i hb;cases hb;simp at hw
     ·unfold qhJ at he;split at he
      ·split at he
       ·split at he
        ·split at he
         ·cases he;simp
         ·cases he
        ·cases he
       ·cases he
      ·cases he
     ·obtain⟨H1,h1,e⟩:=qCb.1 he;cases e;unfold qel at h1;split at h1
      ·cases h1;rfl
      ·split at h1
       ·cases h1;simp
       ·cases h1
      ·cases h1;rfl
      ·split at h1
       ·split at h1
        ·cases h1;simp
        ·cases h1
       ·cases h1
      ·cases h1
     ·rename_i hb;cases hb;simp[FP.none]at hw
     ·rename_i hb;cases hb;simp[FP.none]at hw
     ·cases he
   |makeMap t rv=>
    simp only[evOp]at he;split at he
    ·split at he
     ·rename_i k H1 hnew;cases he;unfold aNew at hnew;split at hnew
      ·rename_i e;cases e
      ·rename_i k' e;cases e;split at hnew
       ·cases hnew;simp
       ·cases hnew
     ·cases he
    ·cases he
   |lookup t a k ok=>
    simp only[evOp]at he;obtain⟨y,_,e⟩:=qCb.1 he;cases e;rfl
   |mapUpdate t m k v=>
    simp only[evOp]at he;obtain⟨H1,h1,e⟩:=qCb.1 he;cases e;exact qiF h1
   |insert t m k v=>
    simp only[evOp]at he;obtain⟨H1,h1,e⟩:=qCb.1 he;cases e;exact qiF h1
   |_=>simp[FP.none]at hw
 cases frz with
 |false=>exact core he
 |true=>
  have he':ve cfg cf false (some at_) o (λa=>(x a).frz (o.op.operands.toList.flatMap λa=>(x a).msIds) H) (qQ (o.op.operands.toList.flatMap λa=>(x a).msIds) H)=some (r,H'):=by
   unfold ve at he⊢
   simpa using he
  rw[core he',qbK]
def zl(p:Nat->Bool):Nat->Option Nat
 |0=>none
 |n+1=>if p n then some n else zl p n
theorem qam{p q:Nat->Bool}:∀{n:Nat},(∀j,j<n->p j=q j)->zl p n=zl q n
 |0,_=>rfl
 |n+1,h=>by rw[zl,zl,h n (Nat.lt_succ_self n),qam λj hj=>h j (Nat.lt_succ_of_lt hj)]
theorem qeR{p:Nat->Bool}:∀{n:Nat},(∀j,j<n->p j=false)->zl p n=none
 |0,_=>rfl
 |n+1,h=>by rw[zl,h n (Nat.lt_succ_self n),qCN (by simp),qeR λj hj=>h j (Nat.lt_succ_of_lt hj)]
theorem qiU{p:Nat->Bool}{i:Nat}(hi:p i=true):∀{n:Nat},i<n->(∀j,j<n->i<j->p j=false)->zl p n=some i
 |0,h,_=>by omega
 |n+1,h,hj=>by
  rw[zl]
  by_cases e:i=n
  ·subst e;rw[qCM hi]
  ·rw[hj n (Nat.lt_succ_self n) (by omega),qCN (by simp),qiU hi (by omega) λj h1 h2=>hj j (Nat.lt_succ_of_lt h1) h2]
def binds(o:Oper)(m:Nat):Prop:=∃e∈o.after.toList,Region.binds .any e=true∧e.on=m
theorem qo3(acc:List Nat):∀(l:List Edge) (s i:Nat),(l.foldl (λs e=>if Region.binds .any e then s ||| 2 ^ e.on ||| acc.getD e.on 0 else s) s).testBit i=true ->
  s.testBit i=true∨∃e∈l,Region.binds .any e=true∧(e.on=i∨(acc.getD e.on 0).testBit i=true)
 |[],s,i,h=>.inl h
 |e::l,s,i,h=>by
  rw[List.foldl_cons]at h;rcases qo3 acc l _ i h with h|⟨e',he',hb⟩
  ·split at h
   ·rename_i hb;rw[Nat.testBit_or,Nat.testBit_or,qCI,qCI]at h;rcases h with(h|h)|h
    ·exact .inl h
    ·rw[Nat.testBit_two_pow]at h;exact .inr ⟨e,List.mem_cons_self ..,hb,.inl (by simpa using h)⟩
    ·exact .inr ⟨e,List.mem_cons_self ..,hb,.inr h⟩
   ·exact .inl h
  ·exact .inr ⟨e',List.mem_cons_of_mem _ he',hb⟩
theorem qiB:∀(l:List Oper) (acc:List Nat),∃t,ancs acc l=acc++t∧t.length=l.length
 |[],acc=>⟨[],by simp[ancs],rfl⟩
 |o::l,acc=>by
  obtain⟨t,h1,h2⟩:=qiB l (acc++[qfb acc o]);exact⟨qfb acc o::t,by rw[ancs,h1];simp,by simp[h2]⟩
theorem qpo:∀(l:List Oper) (acc:List Nat) (j:Nat) (o:Oper),l[j]? =some o->(ancs acc l).getD (acc.length+j) 0=qfb ((ancs acc l).take (acc.length+j)) o
 |[],acc,j,o,h=>by simp at h
 |o'::l,acc,j,o,h=>by
  cases j with
  |zero=>
   simp at h;subst h;obtain⟨t,h1,h2⟩:=qiB l (acc++[qfb acc o']);rw[ancs,h1];simp
  |succ j=>
   have:=qpo l (acc++[qfb acc o']) j o (by simpa using h);rw[ancs];simp only[qCq,qCE,List.length_nil]at this;rw[show acc.length+(j+1)=acc.length+(0+1)+j by omega];exact this
theorem qwY{ops:Array Oper}(hb:yV 0 ops.toList=true){j i:Nat}{o:Oper}(ho:ops[j]? =some o)(h:((ancs [] ops.toList).getD j 0).testBit i=true):∃m,binds o m∧m<j∧(m=i∨((ancs [] ops.toList).getD m 0).testBit i=true):=by
 have hback:∀(l:List Oper) (k j:Nat) (o:Oper),yV k l=true->l[j]? =some o->∀e∈o.after.toList,Region.binds .any e=true->e.on<k+j:=by
  intro l
  induction l with
  |nil=>intro k j o _ h;simp at h
  |cons o' l ih=>
   intro k j o hb hj e he hbe;rw[yV,qB2]at hb;cases j with
   |zero=>
    simp at hj;subst hj;have:=List.all_eq_true.1 hb.1 e he;rw[hbe]at this
    simpa [Nat.blt_eq]using this
   |succ j=>
    have:=ih (k+1) j o hb.2 (by simpa using hj) e he hbe;omega
 have ho':ops.toList[j]? =some o:=by rw[Array.getElem?_toList];exact ho
 have hg:=qpo ops.toList [] j o ho';simp only[List.length_nil,qCG]at hg;rw[hg]at h;unfold qfb at h;rcases qo3 _ _ _ _ h with h|⟨e,he,hbe,h⟩
 ·simp at h
 ·have hlt:e.on<j:=by have:=hback ops.toList 0 j o hb ho' e he hbe;omega
  refine⟨e.on,⟨e,he,hbe,rfl⟩,hlt,?_⟩;rcases h with h|h
  ·exact .inl h
  ·right
   rw[List.getD_eq_getElem?_getD,List.getElem?_take_of_lt hlt,←List.getD_eq_getElem?_getD]at h;exact h
variable {C C' C1 C2 : qu} {μ μ' μ1 : MMap} {H H' H1 H2 : AH} {w w' w1 : World} {P : Program}
def FP.T(a:FP)(id:Nat):Bool:=a.wall||xI id a.rd||xI id a.wr
def FP.W(a:FP)(id:Nat):Bool:=a.wall||xI id a.wr
theorem FP.touches_T{a:FP}{id:Nat}(h:a.T id=true):a.touches=true:=by
 unfold FP.T at h;unfold FP.touches;rw[qCI,qCI]at h;rcases h with(h|h)|h
 ·simp[h]
 ·cases hr:a.rd with
  |nil=>rw[hr]at h;simp[xI]at h
  |cons x l=>simp
 ·cases hr:a.wr with
  |nil=>rw[hr]at h;simp[xI]at h
  |cons x l=>simp
theorem FP.T_of_W{a:FP}{id:Nat}(h:a.W id=true):a.T id=true:=by
 unfold FP.W at h;unfold FP.T;rw[qCI]at h;rcases h with h|h<;>simp[h]
theorem qe0{a b:FP}(h:a.indep b=true)(id:Nat):¬(a.T id=true∧b.W id=true)∧¬(a.W id=true∧b.T id=true):=by
 simp only[FP.indep,qB2,qsc,Bool.not_eq_true',Bool.and_eq_false_iff]at h;obtain⟨⟨⟨⟨h1,h2⟩,h3⟩,h4⟩,h5⟩:=h;constructor
 ·rintro⟨ha,hb⟩;have ta:=FP.touches_T ha;have tb:=FP.touches_T (FP.T_of_W hb);have wa:a.wall=false:=h1.resolve_right (by rw[tb];simp);have wb:b.wall=false:=h2.resolve_right (by rw[ta];simp);unfold FP.T at ha;unfold FP.W at hb;rw[wa,Bool.false_or,qCI,vC,vC]at ha;rw[wb,Bool.false_or,vC]at hb;rcases ha with ha|ha
  ·exact h5 id hb ha
  ·exact h4 id hb ha
 ·rintro⟨ha,hb⟩;have ta:=FP.touches_T (FP.T_of_W ha);have tb:=FP.touches_T hb;have wa:a.wall=false:=h1.resolve_right (by rw[tb];simp);have wb:b.wall=false:=h2.resolve_right (by rw[ta];simp);unfold FP.W at ha;unfold FP.T at hb;rw[wa,Bool.false_or,vC]at ha;rw[wb,Bool.false_or,qCI,vC,vC]at hb;rcases hb with hb|hb
  ·exact h3 id hb ha
  ·exact h4 id hb ha
theorem qig{ops:Array Oper}{A:List Nat}{i:Nat}{a:Oper}:∀(l:List Oper) (j0:Nat),qhs ops A i a j0 l=true->∀j b,l[j]? =some b->qbx a b=true∧((A.getD (j0+j) 0).testBit i=true∨qby ops a b=true)
 |[],_,_,j,b,h=>by simp at h
 |x::l,j0,hs,j,b,h=>by
  rw[qhs,qB2,qB2,qCI]at hs;cases j with
  |zero=>simp at h;subst h;exact hs.1
  |succ j=>
   have:=qig l (j0+1) hs.2 j b (by simpa using h);rw[show j0+(j+1)=j0+1+j by omega];exact this
theorem qih{ops:Array Oper}{A:List Nat}:∀(l:List Oper) (i0:Nat),qht ops A i0 l=true->∀i j a b,l[i]? =some a->l[j]? =some b->i<j->qbx a b=true∧((A.getD (i0+j) 0).testBit (i0+i)=true∨qby ops a b=true)
 |[],_,_,i,j,a,b,h,_,_=>by simp at h
 |x::l,i0,hs,i,j,a,b,hi,hj,hlt=>by
  rw[qht,qB2]at hs;cases j with
  |zero=>omega
  |succ j=>
   cases i with
   |zero=>
    simp at hi;subst hi;have:=qig l (i0+1) hs.1 j b (by simpa using hj);rw[show i0+(j+1)=i0+1+j by omega];exact this
   |succ i=>
    have:=qih l (i0+1) hs.2 i j a b (by simpa using hi) (by simpa using hj) (by omega);rw[show i0+(j+1)=i0+1+j by omega,show i0+(i+1)=i0+1+i by omega];exact this
theorem qkR{A:List Nat}{i:Nat}{a:FP}:∀(l:List FP) (j0:Nat),qkS A i a j0 l=true->∀j b,l[j]? =some b->(A.getD (j0+j) 0).testBit i=true∨a.indep b=true
 |[],_,_,j,b,h=>by simp at h
 |x::l,j0,hs,j,b,h=>by
  rw[qkS,qB2,qCI]at hs;cases j with
  |zero=>simp at h;subst h;exact hs.1
  |succ j=>
   have:=qkR l (j0+1) hs.2 j b (by simpa using h);rw[show j0+(j+1)=j0+1+j by omega];exact this
theorem qe8{A:List Nat}:∀(l:List FP) (i0:Nat),qgU A i0 l=true->∀i j a b,l[i]? =some a->l[j]? =some b->i<j->(A.getD (i0+j) 0).testBit (i0+i)=true∨a.indep b=true
 |[],_,_,i,j,a,b,h,_,_=>by simp at h
 |x::l,i0,hs,i,j,a,b,hi,hj,hlt=>by
  rw[qgU,qB2]at hs;cases j with
  |zero=>omega
  |succ j=>
   cases i with
   |zero=>
    simp at hi;subst hi;have:=qkR l (i0+1) hs.1 j b (by simpa using hj);rw[show i0+(j+1)=i0+1+j by omega];exact this
   |succ i=>
    have:=qe8 l (i0+1) hs.2 i j a b (by simpa using hi) (by simpa using hj) (by omega);rw[show i0+(j+1)=i0+1+j by omega,show i0+(i+1)=i0+1+i by omega];exact this
theorem qj5{t:Tmp}:∀{l:List Operand},Operand.tmp t∈l->t∈qd2 l
 |[],h=>by cases h
 |x::l,h=>by
  rcases qCB.1 h with h|h
  ·subst h;simp[qd2]
  ·have:=qj5 h;cases x<;>simp[qd2,this]
theorem qq5{fr fr2:List AV}{ops:Array Oper}{o:Oper}(h:∀t∈zH ops o,fr2[t]? =fr[t]?):∀a∈o.op.operands,opd fr2 a=opd fr a:=by
 intro a ha;cases a with
 |tmp t=>
  have:t∈zH ops o:=by unfold zH;exact qCy.2 (.inl (qj5 (Array.mem_toList_iff.2 ha)))
  show fr2.getD t .junk=fr.getD t .junk;rw[List.getD_eq_getElem?_getD,List.getD_eq_getElem?_getD,h t this]
 |_=>rfl
theorem qpP{fr fr2:List AV}{ops:Array Oper}{o:Oper}(h:∀t∈zH ops o,fr2[t]? =fr[t]?):xk ops fr2 o=xk ops fr o:=by
 unfold xk;split
 ·rfl
 ·rename_i j want hg;split
  ·rename_i d hd;have:d∈zH ops o:=by unfold zH;rw[hg];simp[hd]
   rw[h d this]
  ·rfl
structure DStep (cfg:Cfg) (cf:Orac) (ops:Array Oper) (frz:Bool) (o:Oper) (fr fr':List AV) (H H':AH) (v:AV) (b:Bool) (at_:Nat) (fp:FP) (re:AH->Bool):Prop where
 wanted:xk ops fr o=some b
 next:fr'=put fr o.dst v
 yes:b=true->ve cfg cf frz (some at_) o (opd fr) H=some (v,H')∧fp=yg cfg frz at_ o (opd fr) H∧re=qjU cfg frz at_ o (opd fr) v
 no:b=false->v= .tup []∧H'=H∧fp=FP.none∧re=λ_=>false
theorem qkO{cfg:Cfg}{cf:Orac}{f rid:Nat}{ops:Array Oper}:∀(rest:List Oper) (k at_:Nat) {fr fr':List AV} {H H':AH} {fps:List DR},xN cfg cf f rid ops k at_ rest fr H=some (fps,fr',H') ->
  ∃(F:Nat->List AV) (G:Nat->AH) (V:Nat->AV) (B:Nat->Bool) (A:Nat->Nat) (Φ:Nat->FP) (R:Nat->AH->Bool),F 0=fr∧G 0=H∧F rest.length=fr'∧G rest.length=H'∧(∀i,i<rest.length->fps[i]? =some ⟨Φ i,G (i+1),R i⟩) ∧
   ∀i o,rest[i]? =some o->DStep cfg cf ops (cfg.frz f rid (k+i)) o (F i) (F (i+1)) (G i) (G (i+1)) (V i) (B i) (A i) (Φ i) (R i)
 |[],k,at_,fr,fr',H,H',fps,he=>by
  simp only[xN]at he;cases he;exact⟨λ_=>fr,λ_=>H,λ_=>.junk,λ_=>true,λ_=>0,λ_=>FP.none,λ_ _=>false,rfl,rfl,rfl,rfl,λi h=>by simp at h,λi o h=>by simp at h⟩
 |o::rest,k,at_,fr,fr',H,H',fps,he=>by
  simp only[xN]at he;obtain⟨b,hb,he⟩:=qB6.1 he;have glue:∀{v:AV} {H1:AH} {fp:FP} {re:AH->Bool} {fps1:List DR},DStep cfg cf ops (cfg.frz f rid k) o fr (put fr o.dst v) H H1 v b at_ fp re ->
    xN cfg cf f rid ops (k+1) (at_+qbW cfg o) rest (put fr o.dst v) H1=some (fps1,fr',H')->fps=⟨fp,H1,re⟩::fps1 ->
    ∃(F:Nat->List AV) (G:Nat->AH) (V:Nat->AV) (B:Nat->Bool) (A:Nat->Nat) (Φ:Nat->FP) (R:Nat->AH->Bool),F 0=fr∧G 0=H∧F (o::rest).length=fr'∧G (o::rest).length=H'∧(∀i,i<(o::rest).length->fps[i]? =some ⟨Φ i,G (i+1),R i⟩) ∧
     ∀i o',(o::rest)[i]? =some o'->DStep cfg cf ops (cfg.frz f rid (k+i)) o' (F i) (F (i+1)) (G i) (G (i+1)) (V i) (B i) (A i) (Φ i) (R i):=by
   intro v H1 fp re fps1 hs hd hfp;obtain⟨F,G,V,B,A,Φ,R,e1,e2,e3,e4,e5,e6⟩:=qkO rest (k+1) _ hd;refine⟨λi=>match i with|0=>fr|i+1=>F i,λi=>match i with|0=>H|i+1=>G i,λi=>match i with|0=>v|i+1=>V i,λi=>match i with|0=>b|i+1=>B i,
    λi=>match i with|0=>at_|i+1=>A i,λi=>match i with|0=>fp|i+1=>Φ i,λi=>match i with|0=>re|i+1=>R i,rfl,rfl,e3,e4,λi hi=>?_,λi o' ho=>?_⟩
   ·rw[hfp];cases i with
    |zero=>
     show some (DR.mk fp H1 re)=some ⟨fp,G 0,re⟩;rw[e2]
    |succ i=>exact e5 i (by simpa using hi)
   ·cases i with
    |zero=>
     simp at ho;subst ho;show DStep cfg cf ops (cfg.frz f rid (k+0)) o fr (F 0) H (G 0) v b at_ fp re;rw[e1,e2];exact hs
    |succ i=>
     have:=e6 i o' (by simpa using ho);rw[show k+(i+1)=k+1+i by omega];exact this
  split at he
  ·rename_i hbt;obtain⟨q,hq,he⟩:=qB6.1 he;obtain⟨p,hp,e⟩:=qCb.1 he;obtain⟨fps1,fr1,H1⟩:=p;cases e;exact glue ⟨hb,rfl,λ_=>⟨hq,rfl,rfl⟩,λh=>by rw[h]at hbt;simp at hbt⟩ hp rfl
  ·rename_i hbt;obtain⟨p,hp,e⟩:=qCb.1 he;obtain⟨fps1,fr1,H1⟩:=p;cases e;exact glue ⟨hb,rfl,λh=>absurd h hbt,λ_=>⟨rfl,rfl,rfl,rfl⟩⟩ hp rfl
theorem DStep.again{cfg:Cfg}{cf:Orac}{ops:Array Oper}{frz:Bool}{o:Oper}{fr fr':List AV}{v:AV}{at_:Nat}{fp:FP}{re:AH->Bool}(h:DStep cfg cf ops frz o fr fr' H H' v true at_ fp re){fr2:List AV}(hu:∀t∈zH ops o,fr2[t]? =fr[t]?)(hl:H2.length=H.length)(ht:∀id,fp.T id=true->H2[id]? =H[id]?):
  ∃H2',ve cfg cf frz (some at_) o (opd fr2) H2=some (v,H2')∧H2'.length=H2.length∧∀id,H2'[id]? =if fp.W id=true then H'[id]? else H2[id]? :=by
 obtain⟨he,hfp,-⟩:=h.yes rfl;rw[qgR (qq5 hu)];cases hw:fp.wall with
 |true=>
  have:H2=H:=List.ext_getElem? λid=>ht id (by unfold FP.T;rw[hw];simp)
  subst this;exact⟨H',he,qsT he,λid=>by unfold FP.W;rw[hw];simp⟩
 |false=>
  rw[hfp]at hw;obtain⟨H2',e1,e2,e3⟩:=qc8 (H2:=H2) he hw hl (λid hi=>ht id (by unfold FP.T;rw[hfp,qCI,qCI,vC,vC];exact .inl (.inr hi)))
   (λid hi=>ht id (by unfold FP.T;rw[hfp,qCI,qCI,vC,vC];exact .inr hi))
  refine⟨H2',e1,e2,λid=>?_⟩;rw[e3 id];unfold FP.W;rw[hfp,hw,Bool.false_or]
  by_cases hi:id∈(yg cfg frz at_ o (opd fr) H).wr
  ·rw[qCM hi,qCM (vC.2 hi)]
  ·rw[qCN hi,qCN (λh=>hi (vC.1 h))]
theorem qv1{a b:AV}(h:a.same1 b=true):a=b:=by
 cases a<;>cases b<;>simp[AV.same1]at h<;>first|rfl|(obtain⟨h1,h2⟩:=h;subst h1;subst h2;rfl)|(subst h;rfl)|(obtain⟨⟨h1,h2⟩,h3⟩:=h;subst h1;subst h2;subst h3;rfl)|(obtain⟨h1,h2,h3⟩:=h;subst h1;subst h2;subst h3;rfl)
theorem DStep.reads{cfg:Cfg}{cf:Orac}{ops:Array Oper}{frz:Bool}{o:Oper}{fr fr':List AV}{v:AV}{at_:Nat}{fp:FP}{re:AH->Bool}{b:Bool}(h:DStep cfg cf ops frz o fr fr' H H' v b at_ fp re){G:AH}(hr:re G=true):
  b=true∧H'=H∧∃id,fp=⟨[id],[],false⟩∧∀{G:AH},re G=true->∀{fr2:List AV},(∀t∈zH ops o,fr2[t]? =fr[t]?)->∀{H2:AH},H2[id]? =G[id]? ->H2.length=G.length->ve cfg cf frz (some at_) o (opd fr2) H2=some (v,H2):=by
 cases b with
 |false=>rw[(h.no rfl).2.2.2]at hr;cases hr
 |true=>
  obtain⟨he,hfp,hre⟩:=h.yes rfl;refine⟨rfl,?_⟩;rw[hre]at hr;obtain⟨dst,op,ty,pos,after,guard⟩:=o;unfold qjU at hr;split at hr
  case isTrue=>cases hr
  rename_i hfz;have hfz:frz=false:=by simpa using hfz
  subst hfz;cases op with
  |load t a=>
   simp only at hr;split at hr
   case h_2=>cases hr
   rename_i id r off hx;have hfp':fp=⟨[id],[],false⟩:=by rw[hfp];simp[yg,hx,AV.hid]
   refine⟨?_,id,hfp',fun{G} hG {fr2} hu {H2} hid hlen=>?_⟩
   ·unfold ve at he;simp only[qCg,if_false,evOp]at he;split at he
    ·obtain⟨_,_,e⟩:=qCb.1 he;cases e;rfl
    ·cases he
   ·rw[qgR (qq5 hu)];rw[hre]at hG;unfold qjU at hG;simp only[qCg,if_false,hx]at hG;split at hG
    case h_2=>cases hG
    rename_i v' G' hv;have:=qv1 hG;subst this;have hev:ve cfg cf false (some at_) ⟨dst,.load t a,ty,pos,after,guard⟩ (opd fr) G=some (v',G'):=by
     unfold ve;simp only[qCg,if_false];exact hv
    obtain⟨H2',e1,e2,e3⟩:=qc8 (H2:=H2) hev (by simp[yg]) hlen (λi hi=>by
     simp[yg,hx,AV.hid]at hi;subst hi;exact hid) (λi hi=>by simp[yg]at hi)
    have:H2'=H2:=List.ext_getElem? λi=>by rw[e3 i];simp[yg]
    rw[this]at e1;exact e1
  |_=>cases hr
variable {C C' C1 C2 : qu} {μ μ' μ1 : MMap} {H H' H1 H2 : AH} {w w' w1 : World} {P : Program}
def yL(ops:Array Oper)(t j:Nat):Bool:=
 match ops[j]? with
 |some o=>(match o.dst with|some d=>qCh d t|none=>false)
 |none=>false
theorem qgL{ops:Array Oper}{t j:Nat}{o:Oper}(h:ops[j]? =some o):yL ops t j=true↔o.dst=some t:=by
 unfold yL;rw[h];simp only;cases hd:o.dst with
 |none=>simp
 |some d=>
  simp only[Option.some.injEq];constructor
  ·intro h;exact qB9 h
  ·intro h;rw[h];exact qCw _
theorem qcm{ops:Array Oper}{t j:Nat}(h:yL ops t j=true):∃o,ops[j]? =some o∧o.dst=some t:=by
 cases ho:ops[j]? with
 |none=>unfold yL at h;rw[ho]at h;cases h
 |some o=>exact⟨o,rfl,(qgL ho).1 h⟩
structure FrIs (ops:Array Oper) (V:Nat->AV) (F0:List AV) (D:Nat->Bool) (fr:List AV):Prop where
 len:fr.length=F0.length
 get:∀t,t<F0.length->fr[t]? =match zl (λj=>D j&&yL ops t j) ops.size with|some j=>some (V j)|none=>F0[t]?
structure HIs (Φ:Nat->FP) (G:Nat->AH) (N:Nat) (D:Nat->Bool) (H:AH):Prop where
 len:H.length=(G 0).length
 get:∀id,H[id]? =match zl (λj=>D j&&(Φ j).W id) N with|some j=>(G (j+1))[id]? |none=>(G 0)[id]?
def addD(D:Nat->Bool)(i:Nat):Nat->Bool:=λj=>D j||qCh j i
def preD(i:Nat):Nat->Bool:=λj=>Nat.blt j i
theorem qdu(D:Nat->Bool)(i:Nat):addD D i i=true:=by simp[addD]
theorem qcA{D:Nat->Bool}{i j:Nat}(h:j≠i):addD D i j=D j:=by
 unfold addD;have:qCh j i=false:=by rw[←Bool.not_eq_true];intro h';exact h (qB9 h')
 rw[this,Bool.or_false]
theorem qt2(i:Nat):preD (i+1)=addD (preD i) i:=by
 funext j
 unfold preD addD;rw[Bool.eq_iff_iff,qCI,Nat.blt_eq,Nat.blt_eq];constructor
 ·intro h;rcases Nat.lt_or_ge j i with h'|h'
  ·exact .inl h'
  ·have:j=i:=by omega
   subst this;exact .inr (qCw _)
 ·rintro(h|h)
  ·omega
  ·have:=qB9 h;omega
theorem FrIs.add{ops:Array Oper}{V:Nat->AV}{F0:List AV}{D:Nat->Bool}{fr:List AV}(h:FrIs ops V F0 D fr){i:Nat}{o:Oper}(ho:ops[i]? =some o)(hd:∀t j,j≠i->yL ops t j=true->yL ops t i=true->False):
  FrIs ops V F0 (addD D i) (put fr o.dst (V i)):=by
 have hi:i<ops.size:=(Array.getElem?_eq_some_iff.1 ho).1;refine⟨by rw[←h.len];cases o.dst<;>simp[put],λt ht=>?_⟩
 by_cases e:yL ops t i=true
 ·have hdst:=(qgL ho).1 e;rw[qiU (i:=i) (by rw[qdu,e];rfl) hi (λj hj hlt=>by
   have:yL ops t j=false:=by rw[←Bool.not_eq_true];exact λh'=>hd t j (by omega) h' e
   rw[this,Bool.and_false])]
  rw[hdst];simp only[put];rw[qCn,qCM rfl,qCM (by rw[h.len];exact ht)]
 ·have hne:o.dst≠some t:=λh'=>e ((qgL ho).2 h')
  rw[qam (q:=λj=>D j&&yL ops t j) (λj hj=>by
   by_cases hji:j=i
   ·subst hji;have:yL ops t j=false:=by simpa using e
    rw[this,Bool.and_false,Bool.and_false]
   ·rw[qcA hji])]
  rw[←h.get t ht];cases hdst:o.dst with
  |none=>rfl
  |some d=>
   simp only[put];rw[qCn,qCN];intro e';subst e';exact hne hdst
theorem HIs.add{Φ:Nat->FP}{G:Nat->AH}{N:Nat}{D:Nat->Bool}(h:HIs Φ G N D H){i:Nat}(hi:i<N)(hd:∀j,D j=true->i<j->∀id,¬((Φ i).W id=true∧(Φ j).W id=true))(hl:H'.length=H.length)(hg:∀id,H'[id]? =if(Φ i).W id=true then(G (i+1))[id]? else H[id]?):HIs Φ G N (addD D i) H':=by
 refine⟨by rw[hl,h.len],λid=>?_⟩;rw[hg id]
 by_cases e:(Φ i).W id=true
 ·rw[qCM e];rw[qiU (i:=i) (by rw[qdu,e];rfl) hi (λj hj hlt=>by
   rw[qcA (by omega)];cases hD:D j with
   |false=>rfl
   |true=>
    have:=hd j hD hlt id;rw[qCF,←Bool.not_eq_true];exact λh'=>this ⟨e,h'⟩)]
 ·rw[qCN e];rw[qam (q:=λj=>D j&&(Φ j).W id) (λj hj=>by
   by_cases hji:j=i
   ·subst hji;have:(Φ j).W id=false:=by simpa using e
    rw[this,Bool.and_false,Bool.and_false]
   ·rw[qcA hji])]
  exact h.get id
theorem FrIs.congr{ops:Array Oper}{V:Nat->AV}{F0:List AV}{D D':Nat->Bool}{fr fr':List AV}(h:FrIs ops V F0 D fr)(h':FrIs ops V F0 D' fr'){t:Nat}(hD:∀j,yL ops t j=true->D j=D' j):fr[t]? =fr'[t]? :=by
 rcases Nat.lt_or_ge t F0.length with ht|ht
 ·rw[h.get t ht,h'.get t ht,qam (p:=λj=>D j&&yL ops t j) (q:=λj=>D' j&&yL ops t j) (λj _=>by
   cases hd:yL ops t j with
   |false=>rw[Bool.and_false,Bool.and_false]
   |true=>rw[hD j hd])]
 ·rw[List.getElem?_eq_none (by rw[h.len];exact ht),List.getElem?_eq_none (by rw[h'.len];exact ht)]
theorem HIs.congr{Φ:Nat->FP}{G:Nat->AH}{N:Nat}{D D':Nat->Bool}(h:HIs Φ G N D H)(h':HIs Φ G N D' H'){id:Nat}(hD:∀j,j<N->(Φ j).W id=true->D j=D' j):H[id]? =H'[id]? :=by
 rw[h.get id,h'.get id,qam (p:=λj=>D j&&(Φ j).W id) (q:=λj=>D' j&&(Φ j).W id) (λj hj=>by
  cases hd:(Φ j).W id with
  |false=>rw[Bool.and_false,Bool.and_false]
  |true=>rw[hD j hj hd])]
def z4(L:List Nat)(D:Nat->Bool):Prop:=∀j,D j=true->∀i,(L.getD j 0).testBit i=true->D i=true
noncomputable section
variable {cfg : Cfg} {cf : Orac} {ops : Array Oper} {frz : Nat → Bool} {F : Nat → List AV} {G : Nat → AH} {V : Nat → AV} {B : Nat → Bool} {A : Nat → Nat} {Φ Ψ : Nat → FP} {R : Nat → AH → Bool}
structure DrawOk (cfg:Cfg) (cf:Orac) (ops:Array Oper) (frz:Nat->Bool) (F:Nat->List AV) (G:Nat->AH) (V:Nat->AV) (B:Nat->Bool) (A:Nat->Nat) (Φ Ψ:Nat->FP) (R:Nat->AH->Bool):Prop where
 back:yV 0 ops.toList=true
 stat:∀i j a b,ops[i]? =some a->ops[j]? =some b->i<j->qbx a b=true∧(((ancs [] ops.toList).getD j 0).testBit i=true∨qby ops a b=true)
 dyn:∀i j,j<ops.size->i<j->((ancs [] ops.toList).getD j 0).testBit i=true∨(Ψ i).indep (Ψ j)=true
 stb:∀i,i<ops.size->Ψ i=Φ i∨∀m,m<=ops.size->R i (G m)=true
 run:∀i o,ops[i]? =some o->DStep cfg cf ops (frz i) o (F i) (F (i+1)) (G i) (G (i+1)) (V i) (B i) (A i) (Φ i) (R i)
theorem DrawOk.dst(h:DrawOk cfg cf ops frz F G V B A Φ Ψ R){t i j:Nat}(hne:j≠i)(hj:yL ops t j=true)(hi:yL ops t i=true):False:=by
 obtain⟨a,ha,hda⟩:=qcm hi;obtain⟨b,hb,hdb⟩:=qcm hj;rcases Nat.lt_or_ge i j with hlt|hge
 ·have:=(h.stat i j a b ha hb hlt).1;unfold qbx at this;rw[hda,hdb]at this;simp at this
 ·have:=(h.stat j i b a hb ha (by omega)).1;unfold qbx at this;rw[hda,hdb]at this;simp at this
theorem DrawOk.pre(h:DrawOk cfg cf ops frz F G V B A Φ Ψ R):∀i,i<=ops.size->FrIs ops V (F 0) (preD i) (F i)∧HIs Φ G ops.size (preD i) (G i)
 |0,_=>⟨⟨rfl,λt ht=>by rw[qeR (λj _=>by simp[preD])]⟩,⟨rfl,λid=>by rw[qeR (λj _=>by simp[preD])]⟩⟩
 |i+1,hi=>by
  obtain⟨h1,h2⟩:=h.pre i (by omega);have hlt:i<ops.size:=by omega
  have ho:=Array.getElem?_eq_getElem hlt;have hs:=h.run i _ ho;rw[qt2];refine⟨by rw[hs.next];exact h1.add ho λt j hne hj hi=>h.dst hne hj hi,?_⟩;have key:(G (i+1)).length=(G i).length∧∀id,(G (i+1))[id]? =if(Φ i).W id=true then(G (i+1))[id]? else(G i)[id]? :=by
   cases hb:B i with
   |true=>
    rw[hb]at hs;obtain⟨H2',e1,e2,e3⟩:=hs.again (fr2:=F i) (H2:=G i) (λ_ _=>rfl) rfl (λ_ _=>rfl);rw[(hs.yes rfl).1]at e1;cases e1;exact⟨e2,e3⟩
   |false=>
    obtain⟨_,e1,e2,_⟩:=hs.no hb;exact⟨by rw[e1],λid=>by rw[e1,e2];simp[FP.W,FP.none,xI]⟩
  exact h2.add hlt (λj hj hij=>by simp[preD,Nat.blt_eq]at hj;omega) key.1 key.2
theorem DrawOk.wr(h:DrawOk cfg cf ops frz F G V B A Φ Ψ R){j:Nat}(hj:j<ops.size){id:Nat}(hw:(Φ j).W id=true):(Ψ j).W id=true:=by
 rcases h.stb j hj with e|e
 ·rw[e];exact hw
 ·obtain⟨_,_,i,hf,_⟩:=(h.run j _ (Array.getElem?_eq_getElem hj)).reads (e 0 (Nat.zero_le _));rw[hf]at hw;simp[FP.W,xI]at hw
theorem qoz{p:Nat->Bool}:∀{n j:Nat},zl p n=some j->j<n
 |0,j,h=>by simp[zl]at h
 |n+1,j,h=>by
  rw[zl]at h;split at h
  ·cases h;omega
  ·have:=qoz h;omega
theorem DrawOk.ready(h:DrawOk cfg cf ops frz F G V B A Φ Ψ R){D:Nat->Bool}{fr:List AV}(hf:FrIs ops V (F 0) D fr)(hH:HIs Φ G ops.size D H)(hc:z4 (ancs [] ops.toList) D){i:Nat}{o:Oper}(ho:ops[i]? =some o)(hi:D i=false)(hanc:∀m,((ancs [] ops.toList).getD i 0).testBit m=true->D m=true)(hDN:∀j,D j=true->j<ops.size):
  xk ops fr o=some (B i)∧(B i=true->∃H',ve cfg cf (frz i) (some (A i)) o (opd fr) H=some (V i,H')∧HIs Φ G ops.size (addD D i) H')∧(B i=false->V i= .tup []∧HIs Φ G ops.size (addD D i) H) ∧
   FrIs ops V (F 0) (addD D i) (put fr o.dst (V i)):=by
 have hlt:i<ops.size:=(Array.getElem?_eq_some_iff.1 ho).1;obtain⟨p1,p2⟩:=h.pre i (by omega);have hs:=h.run i o ho;have hslots:∀t∈zH ops o,fr[t]? =(F i)[t]? :=by
  intro t ht;refine hf.congr p1 λj hj=>?_
  obtain⟨b,hb,hdb⟩:=qcm hj;rcases Nat.lt_trichotomy j i with hji|hji|hji
  ·have:preD i j=true:=by simp[preD,Nat.blt_eq,hji]
   rw[this];rcases(h.stat j i b o hb ho hji).2 with ha|ha
   ·exact hanc j ha
   ·unfold qby at ha;rw[hdb,qB2]at ha;have:=ha.1;simp only[Bool.not_eq_true',←Bool.not_eq_true,vC]at this;exact absurd ht this
  ·subst hji;rw[hi];symm;rw[←Bool.not_eq_true];simp[preD,Nat.blt_eq]
  ·have:preD i j=false:=by rw[←Bool.not_eq_true];simp[preD,Nat.blt_eq];omega
   rw[this];rcases(h.stat i j o b ho hb hji).2 with ha|ha
   ·rw[←Bool.not_eq_true];intro hD;rw[hc j hD i ha]at hi;cases hi
   ·unfold qby at ha;rw[hdb,qB2]at ha;have:=ha.2;simp only[Bool.not_eq_true',←Bool.not_eq_true,vC]at this;exact absurd ht this
 have hblks:Ψ i=Φ i->∀id,(Φ i).T id=true->H[id]? =(G i)[id]? :=by
  intro hΨ id ht;rw[←hΨ]at ht;refine hH.congr p2 λj hjN hj=>?_
  rcases Nat.lt_trichotomy j i with hji|hji|hji
  ·have:preD i j=true:=by simp[preD,Nat.blt_eq,hji]
   rw[this];rcases h.dyn j i hlt hji with ha|ha
   ·exact hanc j ha
   ·exact absurd ⟨h.wr hjN hj,ht⟩ (qe0 ha id).2
  ·subst hji;rw[hi];symm;rw[←Bool.not_eq_true];simp[preD,Nat.blt_eq]
  ·have:preD i j=false:=by rw[←Bool.not_eq_true];simp[preD,Nat.blt_eq];omega
   rw[this];rcases h.dyn i j hjN hji with ha|ha
   ·rw[←Bool.not_eq_true];intro hD;rw[hc j hD i ha]at hi;cases hi
   ·exact absurd ⟨ht,h.wr hjN hj⟩ (qe0 ha id).1
 have hww:∀j,D j=true->i<j->∀id,¬((Φ i).W id=true∧(Φ j).W id=true):=by
  intro j hD hij id hWW;have hjN:=hDN j hD;rcases h.dyn i j hjN hij with ha|ha
  ·rw[hc j hD i ha]at hi;cases hi
  ·exact(qe0 ha id).2 ⟨h.wr hlt hWW.1,FP.T_of_W (h.wr hjN hWW.2)⟩
 refine⟨by rw[qpP hslots];exact hs.wanted,λhb=>?_,λhb=>?_,hf.add ho λt j hne hj hi=>h.dst hne hj hi⟩
 ·rcases h.stb i hlt with hΨ|hst
  ·rw[hb]at hs;have hlen:H.length=(G i).length:=by rw[hH.len,p2.len]
   obtain⟨H',e1,e2,e3⟩:=hs.again hslots hlen (hblks hΨ);exact⟨H',e1,hH.add hlt hww e2 e3⟩
  ·obtain⟨_,_,id,hf,hev⟩:=hs.reads (hst 0 (Nat.zero_le _));have hm:∃m,m<=ops.size∧H[id]? =(G m)[id]? :=by
    have:=hH.get id;cases hl:zl (λj=>D j&&(Φ j).W id) ops.size with
    |none=>rw[hl]at this;exact⟨0,Nat.zero_le _,this⟩
    |some j=>rw[hl]at this;exact⟨j+1,qoz hl,this⟩
   obtain⟨m,hm1,hm2⟩:=hm;have e1:=hev (hst m hm1) hslots hm2 (by rw[hH.len,(h.pre m hm1).2.len]);exact⟨H,e1,hH.add hlt hww rfl (λid=>by rw[hf];simp[FP.W,xI])⟩
 ·obtain⟨e0,_,e2,_⟩:=hs.no hb;exact⟨e0,hH.add hlt hww rfl (λid=>by rw[e2];simp[FP.W,FP.none,xI])⟩
end
theorem z4.add{ops:Array Oper}(hb:yV 0 ops.toList=true){D:Nat->Bool}(h:z4 (ancs [] ops.toList) D){i:Nat}{o:Oper}(ho:ops[i]? =some o)(hr:∀m,binds o m->D m=true):
  (∀m,((ancs [] ops.toList).getD i 0).testBit m=true->D m=true)∧z4 (ancs [] ops.toList) (addD D i):=by
 have hanc:∀m,((ancs [] ops.toList).getD i 0).testBit m=true->D m=true:=by
  intro m hm;obtain⟨k,h1,_,h3⟩:=qwY hb ho hm;rcases h3 with h3|h3
  ·subst h3;exact hr k h1
  ·exact h k (hr k h1) m h3
 refine⟨hanc,λj hj m hm=>?_⟩
 by_cases e:j=i
 ·subst e;have:=hanc m hm;unfold addD;rw[this];rfl
 ·rw[qcA e]at hj;have:=h j hj m hm;unfold addD;rw[this];rfl
variable {C C' C1 C2 : qu} {μ μ' μ1 : MMap} {H H' H1 H2 : AH} {w w' w1 : World} {P : Program}
theorem qmP{p q:Nat->Bool}(h:∀j,q j=true->p j=true){i:Nat}(hp:p i=true)(hq:q i=false):∀{l:List Nat},i∈l->l.countP q<l.countP p
 |[],hi=>by cases hi
 |x::l,hi=>by
  have hle:l.countP q<=l.countP p:=List.countP_mono_left λj _ hj=>h j hj
  rw[List.countP_cons,List.countP_cons]
  by_cases e:i=x
  ·subst e;rw[hp,hq];simp;omega
  ·have:=qmP h hp hq ((qCB.1 hi).resolve_left e);cases hqx:q x with
   |true=>rw[h x hqx];simp;omega
   |false=>
    cases p x<;>simp<;>omega
theorem qoW(listed:Array Bool){i:Nat}(hi:i<listed.size):(λj=>(listed.setIfInBounds i true).getD j false)=addD (λj=>listed.getD j false) i:=by
 funext j
 rw[Array.getD_eq_getD_getElem?,Array.getElem?_setIfInBounds]
 by_cases e:i=j
 ·subst e;rw[qCM rfl,qCM hi,qdu];rfl
 ·rw[qCN e,qcA (λh=>e h.symm),Array.getD_eq_getD_getElem?]
theorem qcy{listed:Array Bool}{j:Nat}(hj:j<listed.size):listed.getD j true=listed.getD j false:=by
 rw[Array.getD_eq_getD_getElem?,Array.getD_eq_getD_getElem?,Array.getElem?_eq_getElem hj];rfl
def unl(N:Nat)(listed:Array Bool):Nat:=(qCJ N).countP λj=> !listed.getD j true
theorem qt0{ops:Array Oper}(hb:yV 0 ops.toList=true){listed:Array Bool}(hs:listed.size=ops.size)(hr:Region.ready .any ops listed=[]):∀j,j<ops.size->listed.getD j false=true:=by
 intro j
 induction j using Nat.strongRecOn with
 |_ j ih=>
  intro hj;rw[←Bool.not_eq_false];intro hf;have hmem:j∈Region.ready .any ops listed:=by
   refine mem_ready.2 ⟨by rw[qcy (by omega)];exact hf,ops[j],Array.getElem?_eq_getElem hj,λe he hbe=>?_⟩;have hlt:e.on<j:=by
    have hback:∀(l:List Oper) (k j:Nat) (o:Oper),yV k l=true->l[j]? =some o->∀e∈o.after.toList,Region.binds .any e=true->e.on<k+j:=by
     intro l
     induction l with
     |nil=>intro k j o _ h;simp at h
     |cons o' l ih=>
      intro k j o hb hj e he hbe;rw[yV,qB2]at hb;cases j with
      |zero=>
       simp at hj;subst hj;have:=List.all_eq_true.1 hb.1 e he;rw[hbe]at this
       simpa [Nat.blt_eq]using this
      |succ j=>
       have:=ih (k+1) j o hb.2 (by simpa using hj) e he hbe;omega
    have:=hback ops.toList 0 j ops[j] hb (by rw[Array.getElem?_toList];exact Array.getElem?_eq_getElem hj) e (Array.mem_toList_iff.2 he) hbe;omega
   exact ih e.on hlt (by omega)
  rw[hr]at hmem;cases hmem
theorem qwM[Lent]{cfg:Cfg}(hc:CfgTy cfg){cf:Orac}(hO:qaq cfg cf){Fn:Fence}(hF:zu Fn){ops:Array Oper}{frz:Nat->Bool}{F:Nat->List AV}{G:Nat->AH}{V:Nat->AV}{B:Nat->Bool}{A:Nat->Nat}{Φ Ψ:Nat->FP}{R:Nat->AH->Bool}(hd:DrawOk cfg cf ops frz F G V B A Φ Ψ R){Q:Exit->Act->World->Prop}{C0:qu}{μ0:MMap}{H0:AH}{w0:World}{k:Nat}{ds:List Deferred}(hq:∀C μ w a,qy C μ (F ops.size) a.tmps->Wld C μ (G ops.size) w->Ext k C0 μ0 H0 w0 C μ (G ops.size) w->a.defers=ds->Q .normal a w):
  ∀(fuel:Nat) (listed:Array Bool) {fr:List AV} {H:AH} {C:qu} {μ:MMap} {w:World} {a:Act},listed.size=ops.size->unl ops.size listed<=fuel->FrIs ops V (F 0) (λj=>listed.getD j false) fr ->
   HIs Φ G ops.size (λj=>listed.getD j false) H->z4 (ancs [] ops.toList) (λj=>listed.getD j false)->qy C μ fr a.tmps->Wld C μ H w->Ext k C0 μ0 H0 w0 C μ H w->a.defers=ds ->
   wpAnyIn Fn 0 cfg.P .any ops Q fuel listed a w:=by
 have done:∀{listed:Array Bool} {fr:List AV} {H:AH} {C:qu} {μ:MMap} {w:World} {a:Act},(∀j,j<ops.size->listed.getD j false=true)->FrIs ops V (F 0) (λj=>listed.getD j false) fr ->
   HIs Φ G ops.size (λj=>listed.getD j false) H->qy C μ fr a.tmps->Wld C μ H w->Ext k C0 μ0 H0 w0 C μ H w->a.defers=ds->Q .normal a w:=by
  intro listed fr H C μ w a hall hfi hhi hfr hw hx hds;obtain⟨p1,p2⟩:=hd.pre ops.size (qCa _);have e1:fr=F ops.size:=List.ext_getElem? λt=>hfi.congr p1 λj hj=>by
   obtain⟨o,ho,_⟩:=qcm hj;have hlt:=(Array.getElem?_eq_some_iff.1 ho).1;rw[hall j hlt];simp[preD,Nat.blt_eq,hlt]
  have e2:H=G ops.size:=List.ext_getElem? λid=>hhi.congr p2 λj hj _=>by
   rw[hall j hj];simp[preD,Nat.blt_eq,hj]
  subst e1;subst e2;exact hq C μ w a hfr hw hx hds
 have step:∀(i:Nat) (K:Act->World->Prop) {listed:Array Bool} {fr:List AV} {H:AH} {C:qu} {μ:MMap} {w:World} {a:Act},i∈Region.ready .any ops listed->listed.size=ops.size->FrIs ops V (F 0) (λj=>listed.getD j false) fr ->
   HIs Φ G ops.size (λj=>listed.getD j false) H->z4 (ancs [] ops.toList) (λj=>listed.getD j false)->qy C μ fr a.tmps->Wld C μ H w->Ext k C0 μ0 H0 w0 C μ H w->a.defers=ds ->
   (∀{fr:List AV} {H:AH} {C:qu} {μ:MMap} {w:World} {a:Act},FrIs ops V (F 0) (λj=>(listed.setIfInBounds i true).getD j false) fr ->
    HIs Φ G ops.size (λj=>(listed.setIfInBounds i true).getD j false) H->z4 (ancs [] ops.toList) (λj=>(listed.setIfInBounds i true).getD j false)->qy C μ fr a.tmps->Wld C μ H w->Ext k C0 μ0 H0 w0 C μ H w->a.defers=ds->K a w) ->
   wpOpIn Fn 0 cfg.P ops Q i K a w:=by
  intro i K listed fr H C μ w a hr hs hfi hhi hac hfr hw hx hds hK;obtain⟨hun,o,ho,hed⟩:=mem_ready.1 hr;have hlt:i<ops.size:=(Array.getElem?_eq_some_iff.1 ho).1;have hDi:listed.getD i false=false:=by rw[←qcy (by omega)];exact hun
  obtain⟨hanc,hac'⟩:=hac.add hd.back ho (λm ⟨e,he,hbe,hm⟩=>by subst hm;exact hed e (Array.mem_toList_iff.1 he) hbe);obtain⟨r1,r2,r3,r4⟩:=hd.ready hfi hhi hac ho hDi hanc (λj hj=>by
   rcases Nat.lt_or_ge j ops.size with h|h
   ·exact h
   ·rw[Array.getD_eq_getD_getElem?,Array.getElem?_eq_none (by omega)]at hj;simp at hj)
  have hwan:=qcL hfr r1;rw[←qoW listed (by omega)]at hac' r4 r2 r3;unfold wpOpIn;simp only[ho];cases hb:B i with
  |true=>
   rw[hb]at hwan;rw[qCM hwan];obtain⟨H',e1,e2⟩:=r2 hb;refine qgs hF ((qc7 hc hO (qbr hfr) hw e1).mono λv w1 ⟨C1,μ1,g1,g2,g3⟩=>?_);have hf1:qy C1 μ1 fr a.tmps:=hfr.monoG g3.cl (λid m hm=>g3.mu id m (hw.dom id m hm) hm);exact hK r4 e2 hac' (qbp hf1 g1) g2 (hx.trans g3 hx.len) (by rw[z9];exact hds)
  |false=>
   rw[hb]at hwan;rw[qCN (by rw[hwan];simp)];obtain⟨e0,e2⟩:=r3 hb;rw[e0]at r4;exact⟨λf _=>hF.fn f,hK r4 e2 hac' (qbp hfr qgj) hw hx (by rw[z9];exact hds)⟩
 intro fuel
 induction fuel with
 |zero=>
  intro listed fr H C μ w a hs hu hfi hhi hac hfr hw hx hds;have hall:∀j,j<ops.size->listed.getD j false=true:=by
   intro j hj;have h0:unl ops.size listed=0:=by omega
   unfold unl at h0;rw[List.countP_eq_zero]at h0;have:=h0 j (List.mem_range.2 hj);rw[qcy (by omega)]at this
   simpa using this
  refine⟨?_,done hall hfi hhi hfr hw hx hds⟩;cases hr:Region.ready .any ops listed with
  |nil=>rfl
  |cons i l=>
   have hi:i∈Region.ready .any ops listed:=by rw[hr];exact List.mem_cons_self ..
   obtain⟨hun,o,ho,_⟩:=mem_ready.1 hi;have hlt:i<ops.size:=(Array.getElem?_eq_some_iff.1 ho).1;have:=hall i hlt;rw[←qcy (by omega),hun]at this;cases this
 |succ fuel ih=>
  intro listed fr H C μ w a hs hu hfi hhi hac hfr hw hx hds;refine⟨λhr=>done (qt0 hd.back hs hr) hfi hhi hfr hw hx hds,λi hi=>step i _ hi hs hfi hhi hac hfr hw hx hds ?_⟩;intro fr' H' C' μ' w' a' f1 f2 f3 f4 f5 f6 f7;refine ih (listed.setIfInBounds i true) (by simpa using hs) ?_ f1 f2 f3 f4 f5 f6 f7;obtain⟨hun,o,ho,_⟩:=mem_ready.1 hi;have hlt:i<ops.size:=(Array.getElem?_eq_some_iff.1 ho).1;have:unl ops.size (listed.setIfInBounds i true)<unl ops.size listed:=by
   unfold unl;refine qmP (λj hj=>?_) (i:=i) (by rw[hun];rfl) ?_ (List.mem_range.2 hlt)
   ·rw[Array.getD_eq_getD_getElem?,Array.getElem?_setIfInBounds]at hj
    by_cases e:i=j
    ·subst e;rw[qCM rfl,qCM (by omega)]at hj;simp at hj
    ·rw[qCN e]at hj;rw[Array.getD_eq_getD_getElem?];exact hj
   ·rw[Array.getD_eq_getD_getElem?,Array.getElem?_setIfInBounds,qCM rfl,qCM (by omega)];rfl
  omega
theorem qsY[Lent]{cfg:Cfg}(hc:CfgTy cfg){cf:Orac}(hO:qaq cfg cf)(hm:cfg.P.follows .mixedOrders=true){Fn:Fence}(hF:zu Fn){f rid:Nat}{ops:Array Oper}{fr:List AV}{fps:List DR}{fr':List AV}{a:Act}(hst:zU ops=true)(he:xN cfg cf f rid ops 0 H.length ops.toList fr (H++qCr (places cfg ops.toList) .res)=some (fps,fr',H'))(hdy:qcz (ancs [] ops.toList) (H++qCr (places cfg ops.toList) .res) fps=true)(hf:qy C μ fr a.tmps)(hw:Wld C μ H w){Q:Exit->Act->World->Prop}(hq:∀C' μ' w' a',qy C' μ' fr' a'.tmps->Wld C' μ' H' w'->Ext H.length C μ H w C' μ' H' w'->a'.defers=a.defers->Q .normal a' w'):(Code.region rid ops true).wpIn Fn 0 cfg.P Q a w:=by
 obtain⟨F,G,V,B,A,Φ,R,e1,e2,e3,e4,e5,e6⟩:=qkO ops.toList 0 H.length he;simp only[qCG,Array.length_toList]at e3 e4 e5 e6;unfold zU at hst;rw[qB2,qB2]at hst;replace hst:=hst.2;have hdd:∃Ψ:Nat->FP,(∀i j,j<ops.size->i<j->((ancs [] ops.toList).getD j 0).testBit i=true∨(Ψ i).indep (Ψ j)=true)∧∀i,i<ops.size->Ψ i=Φ i∨∀m,m<=ops.size->R i (G m)=true:=by
  unfold qcz at hdy;rw[qCI]at hdy;rcases hdy with hdy|hdy
  ·refine⟨Φ,λi j hj hlt=>?_,λi _=>.inl rfl⟩;have:=qe8 _ 0 hdy i j _ _ (by rw[List.getElem?_map,e5 i (by omega)];rfl) (by rw[List.getElem?_map,e5 j hj];rfl) hlt
   simpa using this
  ·refine⟨λi=>stab (H++qCr (places cfg ops.toList) .res) fps ⟨Φ i,G (i+1),R i⟩,λi j hj hlt=>?_,λi hi=>?_⟩
   ·have:=qe8 _ 0 hdy i j _ _ (by rw[List.getElem?_map,e5 i (by omega)];rfl) (by rw[List.getElem?_map,e5 j hj];rfl) hlt
    simpa using this
   ·show(if(R i (H++qCr (places cfg ops.toList) .res)&&qk5 (R i) fps)=true then FP.none else Φ i)=Φ i∨_;split
    ·rename_i hc;rw[qB2]at hc;refine .inr λm hm=>?_
     have hall:∀(l:List DR),qk5 (R i) l=true->∀(k:Nat) d,l[k]? =some d->R i d.hp=true:=by
      intro l
      induction l with
      |nil=>intro _ k d hk;simp at hk
      |cons d l ih=>
       intro hl k d' hk;rw[qk5,qB2]at hl;cases k with
       |zero=>simp at hk;subst hk;exact hl.1
       |succ k=>exact ih hl.2 k d' (by simpa using hk)
     cases m with
     |zero=>rw[e2];exact hc.1
     |succ m=>exact hall fps hc.2 m _ (e5 m (by omega))
    ·exact .inl rfl
 obtain⟨Ψ,hdyn,hstb⟩:=hdd;have hd:DrawOk cfg cf ops (λk=>cfg.frz f rid k) F G V B A Φ Ψ R:=by
  refine⟨hst.1,λi j a b hi hj hlt=>?_,hdyn,hstb,λi o ho=>e6 i o (by rw[Array.getElem?_toList];exact ho)⟩
  ·have:=qih ops.toList 0 hst.2 i j a b (by rw[Array.getElem?_toList];exact hi) (by rw[Array.getElem?_toList];exact hj) hlt
   simpa using this
 refine wpIn_region_any hm ?_;have hlist:(λj=>(Array.replicate ops.size false).getD j false)=preD 0:=by
  funext j
  rw[Array.getD_eq_getD_getElem?];have hp:preD 0 j=false:=by rw[←Bool.not_eq_true];simp[preD,Nat.blt_eq]
  rw[hp];rcases Nat.lt_or_ge j ops.size with h|h
  ·simp[h]
  ·simp[h]
 obtain⟨p1,p2⟩:=hd.pre 0 (Nat.zero_le _);have hx0:Ext H.length C μ H w C μ (H++qCr (places cfg ops.toList) .res) { w with drawn:=w.drawn+1 }:=
  ⟨rfl,rfl,rfl,qCa _,λ_ _ _ h=>h,λ_ _ _ h=>⟨_,h,.refl _⟩,λb _ hnl=>⟨rfl,λhl=>hnl hl.places,rfl⟩,by simp⟩
 refine qwM hc hO hF hd (C0:=C) (μ0:=μ) (H0:=H) (w0:=w) (k:=H.length) (ds:=a.defers) (λC' μ' w' a' g1 g2 g3 g4=>?_) ops.size (Array.replicate ops.size false) (fr:=F 0) (H:=G 0) (by simp) ?_ (by rw[hlist];exact p1) (by rw[hlist];exact p2) (by rw[hlist];intro j hj;simp[preD]at hj)
  (by rw[e1];exact hf) (by rw[e2];exact(hw.places _).heap rfl) (by rw[e2];exact hx0) rfl
 ·rw[e3]at g1;rw[e4]at g2 g3;exact hq C' μ' w' a' g1 g2 g3 g4
 ·unfold unl;have:=List.countP_le_length (p:=λj=> !(Array.replicate ops.size false).getD j true) (l:=qCJ ops.size)
  simpa using this
variable {C C' C1 C2 : qu} {μ μ' μ1 : MMap} {H H' H1 H2 : AH} {w w' w1 : World} {P : Program}
noncomputable section
variable {F : Fence} {n : Nat} {Q : Exit → Act → World → Prop} {a : Act} {b : Frame} {k : List Item} {cs : List Frame}
theorem y7{c:Code}:step P (lone (b.atR a (.code (.scope c)::k)) cs w)= .next (lone (b.atR a (.code c:: .inScope c::k)) cs w):=
 step_lone_go (by simp[stepG,stepG.exec,Frame.atR])
theorem qlp{c:Code}:step P (lone (b.atR a (.inScope c::k)) cs w)= .next (lone (b.atR a k) cs w):=
 step_lone_go (by simp[stepG,stepG.exec,Frame.atR])
theorem qpG{c:Code}(h:c.wpIn F n P Q a w)(hg:∀l a w,¬Q (.goto l) a w):(Code.scope c).wpIn F n P Q a w:=by
 intro b k cs hro hb hr;have h0:(lone (b.atR a (.code (.scope c)::k)) cs w).fenced P F:=fenced_calm hb hr rfl;obtain⟨e,a₁,w₁,hq,harr⟩:=h b (.inScope c::k) cs hro hb hr;cases e with
 |normal=>exact⟨.normal,a₁,w₁,hq,.head h0 y7 (StepsIn.trans harr (.one (fenced_calm hb hr rfl) qlp))⟩
 |exit id=>
  have hx:exitTo id (.inScope c::k)=exitTo id k:=by simp[exitTo]
  exact⟨.exit id,a₁,w₁,hq,λk' hk=>.head h0 y7 (harr.1 k' (by rw[hx];exact hk)),
   λhr' hk=>let⟨k₁,h1,h2⟩:=harr.2 hr' (by rw[hx];exact hk);⟨k₁,h1,.head h0 y7 h2⟩⟩
 |goto l=>exact absurd hq (hg l _ _)
 |ret=>exact⟨_,a₁,w₁,hq,.of_steps (.one h0 y7) harr⟩
 |panic ch=>exact⟨_,a₁,w₁,hq,.of_steps (.one h0 y7) harr⟩
 |outgrown=>exact⟨_,a₁,w₁,hq,.of_steps (.one h0 y7) harr⟩
end
def mark(D:Nat):Deferred:={ target:=.collected D,args:= #[] }
def qcp(B:Nat)(μ:MMap)(H:AH)(w:World)(ds:List Deferred):Prop:=
 B<=w.heap.size∧∃Ds:List Nat,ds=Ds.map mark∧Ds.Nodup∧∀D∈Ds,B<=D∧w.heap[D]? =some (.deferred (some []))∧¬Live H μ D
theorem qcp.ext{B k:Nat}{ds:List Deferred}(h:qcp B μ H w ds)(hx:Ext k C μ H w C' μ' H' w'):qcp B μ' H' w' ds:=by
 obtain⟨hb,Ds,h1,h2,h3⟩:=h;refine⟨Nat.le_trans hb hx.size,Ds,h1,h2,λD hD=>?_⟩;obtain⟨e1,e2,e3⟩:=h3 D hD;obtain⟨f1,f2,_⟩:=hx.fr D (Array.getElem?_eq_some_iff.1 e2).1 e3;exact⟨e1,by rw[f1];exact e2,f2⟩
def Ex.to:Ex->Exit
 | .normal=>.normal
 | .exit id=>.exit id
 | .goto l=>.goto l
 | .ret=>.ret
def qaz[Lent](k B:Nat)(C:qu)(μ:MMap)(H:AH)(w:World)(r:Ex×List AV×AH):Exit->Act->World->Prop:=λe a' w'=>
 e=r.1.to∧∃C' μ',qy C' μ' r.2.1 a'.tmps∧Wld C' μ' r.2.2 w'∧Ext k C μ H w C' μ' r.2.2 w'∧qcp B μ' r.2.2 w' a'.defers
theorem qaz.mono[Lent]{k k' B:Nat}{r:Ex×List AV×AH}{e:Exit}{a':Act}{w2:World}(h:qaz k' B C1 μ1 H1 w1 r e a' w2)(hx:Ext k C μ H w C1 μ1 H1 w1)(hk:k<=k'):qaz k B C μ H w r e a' w2:=by
 obtain⟨h1,C',μ',h2,h3,h4,h5⟩:=h;exact⟨h1,C',μ',h2,h3,hx.trans h4 hk,h5⟩
def RdOk(rd:Option Nat)(F:Fence)(μ:MMap)(k:Nat):Prop:=
 match rd with
 |none=>F=Fence.wide
 |some l=>l<k∧∃m,μ l=some m∧F=Fence.wide.inRound m.block
theorem RdOk.wide{rd:Option Nat}{F:Fence}{k:Nat}(h:RdOk rd F μ k):zu F:=by
 cases rd with
 |none=>exact .inl h
 |some l=>obtain⟨_,m,_,h⟩:=h;exact .inr ⟨_,h⟩
theorem RdOk.ext{rd:Option Nat}{F:Fence}{k k':Nat}(h:RdOk rd F μ k)(hm:∀id m,id<k->μ id=some m->∃m',μ' id=some m'∧m.le m')(hk:k<=k'):RdOk rd F μ' k':=by
 cases rd with
 |none=>exact h
 |some l=>obtain⟨h1,m,h2,h3⟩:=h;obtain⟨m',e1,e2⟩:=hm l m h1 h2;exact⟨by omega,m',e1,by rw[e2.1];exact h3⟩
theorem qy.ext[Lent]{k:Nat}{fr:List AV}{t:Array Value}(h:qy C μ fr t)(hw:Wld C μ H w)(hx:Ext k C μ H w C' μ' H' w')(hk:H.length<=k):qy C' μ' fr t:=
 h.monoG hx.cl λid m hm=>hx.mu id m (Nat.lt_of_lt_of_le (hw.dom id m hm) hk) hm
theorem qaZ:∀{ts:List Tmp} {fr:List AV} {k:Nat},(xM k ts fr).length=fr.length∧∀(i:Nat) a,(xM k ts fr)[i]? =some a->a= .junk∨fr[i]? =some a
 |_,[],_=>by simp[xM]
 |[],x::fr,k=>by
  have ih:=qaZ (ts:=[]) (fr:=fr) (k:=k);refine⟨by simp[xM,ih.1],λi a h=>?_⟩;cases i with
  |zero=>simp[xM]at h;exact .inl h.symm
  |succ i=>simp[xM]at h;simpa using ih.2 i a h
 |t::ts,x::fr,k=>by
  have ih1:=qaZ (ts:=ts) (fr:=fr) (k:=k+1);have ih2:=qaZ (ts:=t::ts) (fr:=fr) (k:=k+1);rw[xM];split
  ·refine⟨by simp[ih1.1],λi a h=>?_⟩;cases i with
   |zero=>simp at h;subst h;exact .inr rfl
   |succ i=>simpa using ih1.2 i a (by simpa using h)
  ·refine⟨by simp[ih2.1],λi a h=>?_⟩;cases i with
   |zero=>simp at h;exact .inl h.symm
   |succ i=>simpa using ih2.2 i a (by simpa using h)
theorem qaa[Lent]{ts:Option (List Tmp)}{fr:List AV}{t:Array Value}(h:qy C μ fr t):qy C μ (vB ts fr) t:=by
 cases ts with
 |none=>exact h
 |some ks=>
  obtain⟨h1,h2⟩:=qaZ (ts:=ks) (fr:=fr) (k:=0);refine⟨by show(xM 0 ks fr).length=_;rw[h1,h.1],λi a v e1 e2=>?_⟩;rcases h2 i a e1 with rfl|e3
  ·exact .junk v
  ·exact h.2 i a v e3 e2
theorem qch[Lent]:∀(ls:List (Tmp×Nat)) {H:AH} {fr:List AV} {tmps:Array Value},Wld C μ H w->qy C μ fr tmps ->
  Wld C μ (vr ls fr H).2 w∧qy C μ (vr ls fr H).1 tmps∧H.length<=(vr ls fr H).2.length∧∀j,j<=H.length->Ext j C μ H w C μ (vr ls fr H).2 w
 |[],H,fr,tmps,h,hf=>⟨h,hf,qCa _,λj hj=>Ext.refl hj⟩
 |p::l,H,fr,tmps,h,hf=>by
  obtain⟨a1,a2,a3,a4⟩:=qqj h hf p.1 p.2;obtain⟨b1,b2,b3,b4⟩:=qch l a1 a2;exact⟨b1,b2,Nat.le_trans a3 b3,λj hj=>(a4 j hj).trans (b4 j (Nat.le_trans hj a3)) (qCa _)⟩
theorem qoT[Lent](h:Wld C μ H w){fr:List AV}{tmps:Array Value}(hf:qy C μ fr tmps)(ts:Option (List Tmp))(ls:List (Tmp×Nat))(k:Nat)(hk:k<=H.length):
  ∃μ',Wld C μ' (yf k ts ls fr H).2 w∧qy C μ' (yf k ts ls fr H).1 tmps∧Ext k C μ H w C μ' (yf k ts ls fr H).2 w:=by
 obtain⟨a1,a2,a3,a4⟩:=qch ls h (qaa (ts:=ts) hf);obtain⟨μ',g1,g2,g3⟩:=qoY a1 a2 k (Nat.le_trans hk a3);exact⟨μ',g1,g2,(a4 k hk).trans g3 (qCa _)⟩
theorem qbu{α:Type}{g:Nat->Option α}{r:α}(h:lim g=some r):∃n,g n=some r:=by
 unfold lim at h;split at h
 ·rename_i he;cases h;exact⟨_,Classical.choose_spec (Classical.choose_spec he)⟩
 ·cases h
theorem qiq[Lent]{F:Fence}{k B:Nat}{ts:Option (List Tmp)}{ls:List (Tmp×Nat)}{body:Den}{c:Code}{rd:Option Nat}{r:Ex×List AV×AH}{C0:qu}{μ0:MMap}{H0:AH}{w0:World}(hbody:∀{fr:List AV} {H:AH} {q:Ex×List AV×AH},body fr H=some q->∀{C:qu} {μ:MMap} {w:World} {a:Act},k<=H.length->RdOk rd F μ k->qy C μ fr a.tmps->Wld C μ H w->qcp B μ H w a.defers->c.wpIn F 0 P (qaz k B C μ H w q) a w)(hk:k<=H0.length):∀(n:Nat) {p:List AV×AH},x8 k ts ls body n p=some r->∀{C:qu} {μ:MMap} {w:World} {a:Act},k<=p.2.length->RdOk rd F μ k->qy C μ p.1 a.tmps->Wld C μ p.2 w->qcp B μ p.2 w a.defers ->
   Ext k C0 μ0 H0 w0 C μ p.2 w->Code.roundsIn F 0 P c (qaz k B C0 μ0 H0 w0 r) n a w
 |0,p,h=>by cases h
 |n+1,p,h=>by
  intro hkl hrd hf hw hm hx;rw[x8]at h;obtain⟨q,hq,h⟩:=qB6.1 h;refine wpIn_mono (hbody hq hkl hrd hf hw hm) λe a' w' hp=>?_
  obtain⟨he,C',μ'',p1,p2,p3,p4⟩:=hp;have hx':=hx.trans p3 (qCa _);cases hq1:q.1 with
  |normal=>
   rw[hq1]at he h;subst he;obtain⟨μ',g1,g2,g3⟩:=qoT p2 p1 ts ls k hx'.len;exact qiq hbody hk n h g3.len ((hrd.ext p3.mu (qCa _)).ext g3.mu (qCa _)) g2 g1 (p4.ext g3) (hx'.trans g3 (qCa _))
  |exit id=>
   rw[hq1]at he h;cases h;subst he;exact⟨rfl,C',μ'',p1,p2,hx',p4⟩
  |goto l=>
   rw[hq1]at he h;cases h;subst he;exact⟨rfl,C',μ'',p1,p2,hx',p4⟩
  |ret=>
   rw[hq1]at he h;cases h;subst he;exact⟨rfl,C',μ'',p1,p2,hx',p4⟩
variable {C C' C1 C2 : qu} {μ μ' μ1 : MMap} {H H' H1 H2 : AH} {w w' w1 : World} {P : Program}
structure OracOk2 [Lent] (cfg:Cfg) (cf:Orac):Prop where
 calls:qaq cfg cf
 enters:∀h args H r,cf (.f h) args H=some r->cfg.ext h=none->∀vs w,(callFunc h vs).run cfg.P w= .ok (.enter h vs) w
theorem qwv[Lent](h:Wld C μ H w){f:Nat}{fr:List AV}{assign body:Code}{ps:Array Tmp}{fn:FuncId}{tmps:Array Value}{dblk:Nat}(hf:qy C μ fr tmps)(hs:w.heap.size<w1.heap.size)(hold:∀b,b<w.heap.size->w1.heap[b]? =w.heap[b]?){l:Nat}(hl:w.heap.size<=l)(hnew:w1.heap[l]? =some (.loop { state:=.ready,pending:=none,fn,tmps,params:=ps,assign,body,defers:=dblk }))(ho:w1.os=w.os)(ht:w1.tape=w.tape)(hu:w1.output=w.output):
  Wld C (upd μ H.length (MI.mk4 l 0 0 0)) (H++[.loop f fr ps.toList assign body none .ready]) w1∧Ext H.length C μ H w C (upd μ H.length (MI.mk4 l 0 0 0)) (H++[.loop f fr ps.toList assign body none .ready]) w1 ∧
   (∀id m,μ id=some m->upd μ H.length (MI.mk4 l 0 0 0) id=some m)∧(∀b,Live (H++[.loop f fr ps.toList assign body none .ready]) (upd μ H.length (MI.mk4 l 0 0 0)) b->Live H μ b∨b=l):=by
 have hll:l<w1.heap.size:=(Array.getElem?_eq_some_iff.1 hnew).1;have hw1:Wld C μ H w1:=h.world (by omega) (λb hb=>hold b hb);have hmu:∀id m,μ id=some m->upd μ H.length (MI.mk4 l 0 0 0) id=some m:=by
  intro id m hm;have:=h.dom id m hm;unfold upd;rw[qCN (by omega)];exact hm
 obtain⟨n1,n2,n3,n4,n5⟩:=hw1.new4 (nid:=none) (k:=H.length) (blk:=.loop f fr ps.toList assign body none .ready) (H':=H++[.loop f fr ps.toList assign body none .ready]) (B:=l) (b0:=0) (n0:=0) (z0:=0) rfl (λhl'=>by have:=h.live_lt hl';omega) hll
  (λo=>by
   cases hc:C l o with
   |none=>rfl
   |some v=>have:=h.block_lt hc;omega) (h.lent_none hl) rfl ⟨_,hnew,rfl,rfl,rfl,rfl,rfl,hf.mono (λ_ _ _ h=>h) hmu⟩
 refine⟨n1,⟨ho,ht,hu,by omega,λ_ _ _ h=>h,λid m _ hm=>⟨_,hmu id m hm,.refl _⟩,λb hb hnl=>⟨hold b hb,λhl'=>?_,rfl⟩,n3⟩,hmu,n4⟩;rcases n4 b hl' with h1|h1
 ·exact hnl h1
 ·omega
theorem qjV[Lent]{cfg:Cfg}{cf:Orac}(hO:OracOk2 cfg cf){F:Fence}{rd:Option Nat}{f B k:Nat}{g:Operand}{ps:Array Tmp}{assign body:Code}{fr:List AV}{r:Ex×List AV×AH}{a:Act}(he:zE cfg cf f rd k g ps assign body fr H=some r)(hk:k<=H.length)(hrd:RdOk rd F μ k)(hf:qy C μ fr a.tmps)(hw:Wld C μ H w)(hm:qcp B μ H w a.defers):
  (Code.rangeFunc g ps assign body).wpIn F 0 cfg.P (qaz k B C μ H w r) a w:=by
 have hrd:=hrd.ext (λ_ _ _ h=>⟨_,h,.refl _⟩) hk;unfold zE at he;split at he
 case isFalse=>cases he
 rename_i hrl;split at he
 case h_2=>cases he
 rename_i h first caps hg;split at he
 case isTrue=>cases he
 rename_i hext;have hext:cfg.ext h=none:=by
  cases hh:cfg.ext h with
  |none=>rfl
  |some s=>rw[hh]at hext;simp at hext
 obtain⟨q,hq,he⟩:=qB6.1 he;have hgr:=qbr hf g;rw[hg]at hgr;generalize hgv:a.eval g=gv at hgr;cases hgr with
 |fn _ _ _ vf vc hl1 hl2 h1 h2=>
 refine wpIn_rangeFunc λfn hfn=>?_
 have hwide:=hrd.wide;have hmf:qy C μ (vB (cfg.keepIn f (qh body)) fr) a.tmps:=qaa hf
 -- what lies behind the loop
 have core:∀(l:Nat) (ms:List Deferred) (w1:World) (dblk:Nat),w.heap.size<w1.heap.size->(∀b,b<w.heap.size->w1.heap[b]? =w.heap[b]?)->w.heap.size<=l ->
   w1.heap[l]? =some (.loop { state:=.ready,pending:=none,fn,tmps:=a.tmps,params:=ps,assign,body,defers:=dblk })->w1.os=w.os->w1.tape=w.tape->w1.output=w.output ->
   (ms=[]∨∃D,ms=[mark D]∧w.heap.size<=D∧D≠l∧w1.heap[D]? =some (.deferred (some []))) ->
   CallsIn F (0 - 1) cfg.P h (vf.toArray++ #[.func (.yield l) #[] #[]]++vc.toArray) w1 (rangePost F 0 cfg.P l (qaz k B C μ H w r) { a with defers:=ms++a.defers }):=by
  intro l ms w1 dblk hs hold hl hnew ho ht hu hms;obtain⟨g1,g2,g3,g4⟩:=qwv (f:=f) hw hmf hs hold hl hnew ho ht hu;have hargs:qy C (upd μ H.length (MI.mk4 l 0 0 0)) (first++[.yld H.length]++caps) (vf.toArray++ #[.func (.yield l) #[] #[]]++vc.toArray):=by
   refine⟨by simp[hl1,hl2],λi x v e1 e2=>?_⟩;rw[←Array.getElem?_toList]at e2;simp only[Array.toList_append]at e2;rcases Nat.lt_or_ge i (first.length+1)with hlt|hge
   ·rw[qCf (by simpa using hlt)]at e1;rw[qCf (by first|omega|(simp;omega))]at e2;rcases Nat.lt_or_ge i first.length with hlt'|hge'
    ·rw[qCf hlt']at e1;rw[qCf (by first|omega|(simp;omega))]at e2;exact(h1 i x v e1 (by simpa using e2)).mono (λ_ _ _ h=>h) g3
    ·have hi:i=first.length:=by omega
     subst hi;rw[qCo (qCa _)]at e1;rw[qCo (by first|omega|(simp;omega))]at e2;simp[hl1]at e1 e2;subst e1;subst e2;exact .yld H.length (MI.mk4 l 0 0 0) (by unfold upd;rw[qCM rfl])
   ·rw[qCo (by simpa using hge)]at e1;rw[qCo (by first|omega|(simp;omega))]at e2;have:i - (vf.toArray.toList++ #[Value.func (.yield l) #[] #[]].toList).length=i - (first++[AV.yld H.length]).length:=by simp[hl1]
    rw[this]at e2;exact(h2 _ x v e1 (by simpa using e2)).mono (λ_ _ _ h=>h) g3
  have hcall:=hO.calls _ _ _ _ _ hq C _ w1 _ _ hargs g1 rfl;unfold vM at hcall;rw[hO.enters _ _ _ _ hq hext]at hcall;refine hwide.calls (hcall.mono λe w3 hp=>?_);obtain⟨v,rfl,C3,μ3,p1,p2,p3⟩:=hp;have hle:H.length<(H++[ABlk.loop f (vB (cfg.keepIn f (qh body)) fr) ps.toList assign body none .ready]).length:=by simp
  obtain⟨⟨l',b0,s0,z0,D0⟩,hm3,hbl3,-⟩:=p3.mu H.length (MI.mk4 l 0 0 0) hle (by unfold upd;rw[qCM rfl]);have hbl3:l=l':=(show l'=l from hbl3).symm;subst hbl3;split at he
  case h_2=>cases he
  rename_i lf lfr lps lassign lbody pend st hlq;split at he
  case h_1=>cases he
  rename_i hst;obtain⟨e2,e3,rc,e4,e5,e6,_⟩:=p2.liveM hlq rfl hm3;simp only at e4;have hend:=run_endLoop (P:=cfg.P) e4 (by rw[e5];exact hst);refine⟨rc.pending,_,hend,?_⟩
  -- the world behind it
  have hkill:Wld C3 μ3 (q.2.set H.length .dead) (w3.putObj l (.loop { rc with state:=.exhausted })):=by
   refine(p2.kill H.length (by rw[hlq];simp)).worldG (by simp) (λb hb hor=>?_);refine World.putObj_heap_other λhbl=>?_
   subst hbl;rcases hor with hl'|⟨o,hc'⟩|⟨o,hc'⟩
   ·obtain⟨_,hl''⟩:=hl'.of_kill;exact hl'' _ hm3 (λid' b' m' i1 i2 i3 i4 i5=>i4 (p2.inj _ _ _ _ _ _ i1 hlq i2 rfl i3 hm3 _ i5 (.inl rfl))) rfl
   ·exact hc' (e3 o)
   ·exact hc' ((p2.liveH hlq rfl hm3 _ (.inl rfl)).2.2.1 o)
  have hf3:qy C3 μ3 (vB (cfg.keepOut f (qh body)) fr) a.tmps:=(qaa hf).monoG p3.cl (λid m hm=>p3.mu id m (by have:=hw.dom id m hm;simp;omega) (g3 id m hm));obtain⟨μ4,k1,k2,k3⟩:=qoY hkill hf3 k (by simp;have:=p3.len;simp at this;omega);have hx1:Ext H.length C μ H w C3 μ3 q.2 w3:=g2.trans p3 (by simp);have hx:Ext k C μ H w C3 μ4 (gc k (vB (cfg.keepOut f (qh body)) fr) (q.2.set H.length .dead)).2 (w3.putObj l (.loop { rc with state:=.exhausted })):=by
   refine⟨hx1.os,hx1.tape,hx1.output,by have:=hx1.size;simpa using this,hx1.cl,λid m hid hm=>let⟨m1,f1,f2⟩:=hx1.mu id m (by omega) hm;let⟨m2,f3,f4⟩:=k3.mu id m1 hid f1;⟨m2,f3,f2.trans f4⟩,λb hb hnl=>?_,k3.len⟩;obtain⟨f1,f2,f3⟩:=hx1.fr b hb hnl;refine⟨by rw[World.putObj_heap_other (by omega)];exact f1,λhl'=>?_,f3⟩;have hb3:b<(w3.putObj l (.loop { rc with state:=.exhausted })).heap.size:=by have:=hx1.size;simp;omega
   exact(k3.fr b hb3 (λhl''=>f2 hl''.of_kill.1)).2.1 hl'
  have hmarks:qcp B μ4 (gc k (vB (cfg.keepOut f (qh body)) fr) (q.2.set H.length .dead)).2 (w3.putObj l (.loop { rc with state:=.exhausted })) (ms++a.defers):=by
   obtain⟨hb,Ds,d1,d2,d3⟩:=hm.ext hx;have hB:B<=w.heap.size:=hm.1;obtain⟨_,Ds',d1',_,d3'⟩:=hm;have hinj:Ds.map mark=Ds'.map mark:=by rw[←d1,←d1']
   have hDs:Ds=Ds':=by
    have:∀(x y:List Nat),x.map mark=y.map mark->x=y:=by
     intro x
     induction x with
     |nil=>intro y h;cases y with
      |nil=>rfl
      |cons=>simp at h
     |cons a x ih=>
      intro y h;cases y with
      |nil=>simp at h
      |cons b y=>
       simp only[List.map_cons,List.cons.injEq]at h;obtain⟨h1,h2⟩:=h;have:a=b:=by unfold mark at h1;cases h1;rfl
       rw[this,ih y h2]
    exact this _ _ hinj
   rcases hms with rfl|⟨D,rfl,hD1,hD2,hD3⟩
   ·exact⟨hb,Ds,d1,d2,d3⟩
   ·have hDlt:D<w1.heap.size:=(Array.getElem?_eq_some_iff.1 hD3).1;have hDl1:¬Live (H++[ABlk.loop f (vB (cfg.keepIn f (qh body)) fr) ps.toList assign body none .ready]) (upd μ H.length (MI.mk4 l 0 0 0)) D:=by
     intro hl';rcases g4 D hl' with h|h
     ·have:=hw.live_lt h;omega
     ·exact hD2 h
    obtain⟨f1,f2,_⟩:=p3.fr D hDlt hDl1;refine⟨hb,D::Ds,by simp[d1],List.nodup_cons.2 ⟨λhmem=>?_,d2⟩,λD' hD'=>?_⟩
    ·rw[hDs]at hmem;have:=(Array.getElem?_eq_some_iff.1 (d3' D hmem).2.1).1;omega
    ·rcases qCB.1 hD' with rfl|hmem
     ·refine⟨by omega,by rw[World.putObj_heap_other hD2,f1];exact hD3,λhl'=>?_⟩;have hb3:D'<(w3.putObj l (.loop { rc with state:=.exhausted })).heap.size:=by have:=p3.size;simp;omega
      exact(k3.fr D' hb3 (λhl''=>f2 hl''.of_kill.1)).2.1 hl'
     ·exact d3 D' hmem
  have fin:∀e,r=(e,gc k (vB (cfg.keepOut f (qh body)) fr) (q.2.set H.length .dead))->qaz k B C μ H w r e.to { a with defers:=ms++a.defers } (w3.putObj l (.loop { rc with state:=.exhausted })):=by
   intro e hr;subst hr;exact⟨rfl,C3,μ4,k2,k1,hx,hmarks⟩
  rw[e6]at fin⊢;split at he
  ·cases he;exact fin .normal rfl
  ·cases he;exact wpIn_ret (fin .ret rfl)
  ·rename_i x;cases he;exact wpIn_exit (fin (.exit x) rfl)
  ·cases he
 have hres:∀l w,(resolve a.eval (rangeCall g l) 0).run cfg.P w= .ok { target:=.fn (.func h) vc.toArray,args:=vf.toArray++ #[.func (.yield l) #[] #[]] } w:=by
  intro l w;rw[qfs (f:=g) rfl,hgv];simp[Deferred.ofValue,Act.eval]
 have hinv:∀l w,(invoke (.fn (.func h) vc.toArray) (vf.toArray++ #[.func (.yield l) #[] #[]])).run cfg.P w= .ok (.enter h (vf.toArray++ #[.func (.yield l) #[] #[]]++vc.toArray)) w:=by
  intro l w;rw[invoke];exact hO.enters _ _ _ _ hq hext _ w
 have hdep:F.depth.isSome=true->1<=0:=λhh=>by rw[hwide.depth]at hh;simp at hh
 cases rd with
 |none=>
  have hFw:F=Fence.wide:=hrd;have hro:F.round=none:=by rw[hFw];rfl
  rw[hro];refine⟨w.heap.size+1,[mark w.heap.size],_,_,_,h,_,_,run_enterLoop_outer fn a.tmps ps assign body,hres _ _,λf' _=>hwide.fn f',hinv _ _,hdep,?_⟩;refine core (w.heap.size+1) [mark w.heap.size] _ w.heap.size (by simp;omega) (λb hb=>?_) (by omega) ?_ rfl rfl rfl (.inr ⟨w.heap.size,rfl,qCa _,by omega,?_⟩)
  ·show((w.heap.push _).push _)[b]? =_;rw[Array.getElem?_push,qCN (by simp;omega),Array.getElem?_push,qCN (by omega)]
  ·show((w.heap.push _).push _)[w.heap.size+1]? =_;rw[Array.getElem?_push,qCM (by simp)]
  ·show((w.heap.push _).push _)[w.heap.size]? =_;rw[Array.getElem?_push,qCN (by simp),Array.getElem?_push,qCM rfl]
 |some l0=>
  obtain⟨hl0,m0,hm0,hFr⟩:=hrd;have hro:F.round=some m0.block:=by rw[hFr];rfl
  rw[hro];unfold qol at hrl;simp only at hrl;split at hrl
  case h_2=>cases hrl
  rename_i hb0;obtain⟨i2,i3,r0,i4,_⟩:=hw.liveM hb0 rfl hm0;refine⟨w.heap.size,[],_,_,_,h,_,_,run_enterLoop_inner i4 fn a.tmps ps assign body,hres _ _,λf' _=>hwide.fn f',hinv _ _,hdep,?_⟩;refine core w.heap.size [] _ r0.defers (by simp) (λb hb=>?_) (qCa _) ?_ rfl rfl rfl (.inl rfl)
  ·show(w.heap.push _)[b]? =_;rw[Array.getElem?_push,qCN (by omega)]
  ·show(w.heap.push _)[w.heap.size]? =_;rw[Array.getElem?_push,qCM rfl]
variable {C C' C1 C2 : qu} {μ μ' μ1 : MMap} {H H' H1 H2 : AH} {w w' w1 : World} {P : Program}
theorem qbN{D:List Nat}{i:Nat}{o:Oper}:∀(l:List Oper) (k:Nat),(i,o)∈yb D k l↔k<=i∧l[i - k]? =some o∧D.any (qCh i)=false∧rdyB D o=true
 |[],k=>by simp[yb]
 |o'::l,k=>by
  have ih:=qbN (D:=D) (i:=i) (o:=o) l (k+1);rw[yb]
  by_cases e:i=k
  ·subst e;have hno:¬(i,o)∈yb D (i+1) l:=λh=>by have:=(ih.1 h).1;omega
   split
   ·rename_i h;simp only[qB2,Bool.not_eq_true']at h;simp only[qCB,Prod.mk.injEq,true_and,hno,or_false,qCa,Nat.sub_self,qCC,Option.some.injEq];constructor
    ·intro e;subst e;exact⟨rfl,h.1,h.2⟩
    ·intro e;exact e.1.symm
   ·rename_i h;simp only[qB2,Bool.not_eq_true']at h;simp only[hno,false_iff,qCa,Nat.sub_self,qCC,Option.some.injEq,true_and];intro e;obtain⟨rfl,e2⟩:=e;exact h e2
  ·have hs:∀(x:Oper),(k<=i∧(x::l)[i - k]? =some o∧D.any (qCh i)=false∧rdyB D o=true)↔(k+1<=i∧l[i - (k+1)]? =some o∧D.any (qCh i)=false∧rdyB D o=true):=by
    intro x;constructor
    ·rintro⟨h1,h2,h3⟩;have:i - k=(i - (k+1))+1:=by omega
     rw[this,List.getElem?_cons_succ]at h2;exact⟨by omega,h2,h3⟩
    ·rintro⟨h1,h2,h3⟩;have:i - k=(i - (k+1))+1:=by omega
     rw[this,List.getElem?_cons_succ];exact⟨by omega,h2,h3⟩
   rw[hs o',←ih];split
   ·simp only[qCB,Prod.mk.injEq,e,false_and,false_or]
   ·rfl
theorem qdD{ops:Array Oper}{listed:Array Bool}{D:List Nat}(hs:listed.size=ops.size)(hD:∀j,listed.getD j false=D.any (qCh j))(i:Nat):i∈Region.ready .any ops listed↔∃o,(i,o)∈yb D 0 ops.toList:=by
 rw[mem_ready];constructor
 ·rintro⟨h1,o,h2,h3⟩;have hlt:i<ops.size:=(Array.getElem?_eq_some_iff.1 h2).1;refine⟨o,(qbN _ _).2 ⟨Nat.zero_le _,by rw[Nat.sub_zero,Array.getElem?_toList];exact h2,?_,?_⟩⟩
  ·rw[←hD,←qcy (by omega)];exact h1
  ·unfold rdyB;rw[List.all_eq_true];intro e he;cases hb:Region.binds .any e with
   |false=>simp
   |true=>rw[←hD,h3 e (Array.mem_toList_iff.1 he) hb];rfl
 ·rintro⟨o,h⟩;obtain⟨_,h2,h3,h4⟩:=(qbN _ _).1 h;rw[Nat.sub_zero,Array.getElem?_toList]at h2;have hlt:i<ops.size:=(Array.getElem?_eq_some_iff.1 h2).1;refine⟨by rw[qcy (by omega),hD];exact h3,o,h2,λe he hb=>?_⟩;unfold rdyB at h4;have:=List.all_eq_true.1 h4 e (Array.mem_toList_iff.2 he);rw[hb]at this;rw[hD]
  simpa using this
theorem qkP{F:Nat->List AV->AH->Option (List (List AV×AH))}{G:Nat->Oper->Option (List AV×AH)}:∀{l:List (Nat×Oper)} {L:List (List AV×AH)},qbd F G l=some L->∀p∈l,∃q L1,G p.1 p.2=some q∧F p.1 q.1 q.2=some L1∧∀x∈L1,x∈L
 |[],_,_,p,hp=>by cases hp
 |x::l,L,h,p,hp=>by
  rw[qbd]at h;obtain⟨q,h1,h⟩:=qB6.1 h;obtain⟨L1,h2,h⟩:=qB6.1 h;obtain⟨L2,h3,e⟩:=qCb.1 h;subst e;rcases qCB.1 hp with rfl|hp
  ·exact⟨q,L1,h1,h2,λx hx=>List.mem_append_left _ hx⟩
  ·obtain⟨q',L1',g1,g2,g3⟩:=qkP h3 p hp;exact⟨q',L1',g1,g2,λx hx=>List.mem_append_right _ (g3 x hx)⟩
theorem qvi[Lent]{cfg:Cfg}(hc:CfgTy cfg){cf:Orac}(hO:qaq cfg cf){Fn:Fence}(hF:zu Fn){f rid:Nat}{ops:Array Oper}{Q:Exit->Act->World->Prop}{C0:qu}{μ0:MMap}{H0:AH}{w0:World}{k:Nat}{ds:List Deferred}:
  ∀(n:Nat) (D:List Nat) (listed:Array Bool) {fr:List AV} {H:AH} {L:List (List AV×AH)} {C:qu} {μ:MMap} {w:World} {a:Act},zr cfg cf f rid ops n D fr H=some L->listed.size=ops.size->(∀j,listed.getD j false=D.any (qCh j)) ->
   qy C μ fr a.tmps->Wld C μ H w->Ext k C0 μ0 H0 w0 C μ H w->a.defers=ds ->
   (∀q∈L,∀C μ w a,qy C μ q.1 a.tmps->Wld C μ q.2 w->Ext k C0 μ0 H0 w0 C μ q.2 w->a.defers=ds->Q .normal a w)->wpAnyIn Fn 0 cfg.P .any ops Q n listed a w:=by
 have hnil:∀{D:List Nat} {listed:Array Bool},listed.size=ops.size->(∀j,listed.getD j false=D.any (qCh j))->((yb D 0 ops.toList).isEmpty=true↔Region.ready .any ops listed=[]):=by
  intro D listed hs hD;constructor
  ·intro h;rw[List.isEmpty_iff]at h;refine List.eq_nil_iff_forall_not_mem.2 λi hi=>?_
   obtain⟨o,ho⟩:=(qdD hs hD i).1 hi;rw[h]at ho;cases ho
  ·intro h;rw[List.isEmpty_iff];refine List.eq_nil_iff_forall_not_mem.2 λp hp=>?_
   have:=(qdD hs hD p.1).2 ⟨p.2,hp⟩;rw[h]at this;cases this
 intro n
 induction n with
 |zero=>
  intro D listed fr H L C μ w a he hs hD hf hw hx hds hL;rw[zr]at he;split at he
  ·rename_i h;cases he;exact⟨(hnil hs hD).1 h,hL _ (List.mem_singleton.2 rfl) C μ w a hf hw hx hds⟩
  ·cases he
 |succ n ih=>
  intro D listed fr H L C μ w a he hs hD hf hw hx hds hL;rw[zr]at he;split at he
  ·rename_i h;cases he;have hr:=(hnil hs hD).1 h;exact⟨λ_=>hL _ (List.mem_singleton.2 rfl) C μ w a hf hw hx hds,λi hi=>by rw[hr]at hi;cases hi⟩
  ·rename_i h;refine⟨λhr=>absurd ((hnil hs hD).2 hr) h,λi hi=>?_⟩;obtain⟨o,ho⟩:=(qdD hs hD i).1 hi;obtain⟨q,L1,g1,g2,g3⟩:=qkP he _ ho;obtain⟨_,h2,_,_⟩:=(qbN _ _).1 ho;rw[Nat.sub_zero,Array.getElem?_toList]at h2;have hlt:i<ops.size:=(Array.getElem?_eq_some_iff.1 h2).1;have hD':∀j,(listed.setIfInBounds i true).getD j false=(i::D).any (qCh j):=by
    intro j;have:=congrFun (qoW listed (i:=i) (by omega)) j;rw[this]
    by_cases e:j=i
    ·subst e;rw[qdu];simp
    ·rw[qcA e,hD];have:qCh j i=false:=by rw[←Bool.not_eq_true];intro h';exact e (qB9 h')
     simp[this]
   simp only at g1 g2;unfold qb1 at g1;obtain⟨b,hb,g1⟩:=qB6.1 g1;have hwan:=qcL hf hb;unfold wpOpIn;simp only[h2];cases b with
   |true=>
    rw[qCM hwan];simp only[if_true]at g1;obtain⟨r,e1,e⟩:=qCb.1 g1;subst e;refine qgs hF ((qc7 hc hO (qbr hf) hw e1).mono λv w1 ⟨C1,μ1,p1,p2,p3⟩=>?_);have hf1:qy C1 μ1 fr a.tmps:=hf.monoG p3.cl (λid m hm=>p3.mu id m (hw.dom id m hm) hm);exact ih (i::D) _ g2 (by simpa using hs) hD' (qbp hf1 p1) p2 (hx.trans p3 hx.len) (by rw[z9];exact hds) λq hq=>hL q (g3 q hq)
   |false=>
    rw[qCN (by rw[hwan];simp)];simp only[qCg,if_false]at g1;cases g1;exact⟨λf _=>hF.fn f,ih (i::D) _ g2 (by simpa using hs) hD' (qbp hf qgj) hw hx (by rw[z9];exact hds) λq hq=>hL q (g3 q hq)⟩
theorem qs3[Lent]{cfg:Cfg}(hc:CfgTy cfg){cf:Orac}(hO:qaq cfg cf)(hm:cfg.P.follows .mixedOrders=true){Fn:Fence}(hF:zu Fn){f rid:Nat}{ops:Array Oper}{fr:List AV}{L:List (List AV×AH)}{a:Act}(he:zr cfg cf f rid ops ops.size [] fr H=some L)(hf:qy C μ fr a.tmps)(hw:Wld C μ H w){Q:Exit->Act->World->Prop}(hq:∀q∈L,∀C' μ' w' a',qy C' μ' q.1 a'.tmps->Wld C' μ' q.2 w'->Ext H.length C μ H w C' μ' q.2 w'->a'.defers=a.defers->Q .normal a' w'):(Code.region rid ops true).wpIn Fn 0 cfg.P Q a w:=by
 refine wpIn_region_any hm ?_;refine qvi hc hO hF (C0:=C) (μ0:=μ) (H0:=H) (w0:=w) (k:=H.length) (ds:=a.defers) ops.size [] _ he (by simp) (λj=>?_) hf (hw.heap rfl) ?_ rfl hq
 ·rw[Array.getD_eq_getD_getElem?];rcases Nat.lt_or_ge j ops.size with h|h
  ·simp[h]
  ·simp[h]
 ·exact⟨rfl,rfl,rfl,qCa _,λ_ _ _ h=>h,λ_ _ _ h=>⟨_,h,.refl _⟩,λb _ hnl=>⟨rfl,λhl=>hnl hl,rfl⟩,qCa _⟩
theorem qkB[Lent]{tmps:Array Value}:∀(ts:List Tmp) {fr:List AV},qy C μ fr tmps->qy C μ (qkC ts fr) tmps
 |[],_,h=>h
 |t::ts,fr,h=>by
  have:qkC (t::ts) fr=qkC ts (fr.set t .junk):=rfl;rw[this];exact qkB ts (h.setA λv _=>.junk v)
theorem qiz{c:Code}{p:Nat×Array Oper}(h:qb2 c=some p):c= .region p.1 p.2 true∧qlU p.2=true:=by
 unfold qb2 at h;split at h
 ·split at h
  ·rename_i h1;cases h;exact⟨rfl,h1⟩
  ·cases h
 ·cases h
theorem qgT[Lent]{cfg:Cfg}(hc:CfgTy cfg){cf:Orac}(hO:OracOk2 cfg cf)(hmx:cfg.P.follows .mixedOrders=true){F:Fence}{rd:Option Nat}{f B k:Nat}:∀(c:Code) {fr:List AV} {H:AH} {r:Ex×List AV×AH},evC cfg cf f rd k c fr H=some r ->
  ∀{C:qu} {μ:MMap} {w:World} {a:Act},k<=H.length->RdOk rd F μ k->qy C μ fr a.tmps->Wld C μ H w->qcp B μ H w a.defers->c.wpIn F 0 cfg.P (qaz k B C μ H w r) a w:=by
 intro c
 induction c with
 |skip=>
  intro fr H r he C μ w a hk hrd hf hw hm;rw[evC.eq_def]at he;simp only at he;cases he;exact wpIn_skip ⟨rfl,C,μ,hf,hw,Ext.refl hk,hm⟩
 |label l=>
  intro fr H r he C μ w a hk hrd hf hw hm;rw[evC.eq_def]at he;simp only at he;cases he;exact wpIn_label ⟨rfl,C,μ,hf,hw,Ext.refl hk,hm⟩
 |exit id=>
  intro fr H r he C μ w a hk hrd hf hw hm;rw[evC.eq_def]at he;simp only at he;cases he;exact wpIn_exit ⟨rfl,C,μ,hf,hw,Ext.refl hk,hm⟩
 |ret=>
  intro fr H r he C μ w a hk hrd hf hw hm;rw[evC.eq_def]at he;simp only at he;cases he;exact wpIn_ret ⟨rfl,C,μ,hf,hw,Ext.refl hk,hm⟩
 |goto l=>
  intro fr H r he;rw[evC.eq_def]at he;simp only at he;cases he
 |refuse s=>
  intro fr H r he;rw[evC.eq_def]at he;simp only at he;cases he
 |region id ops draw=>
  intro fr H r he C μ w a hk hrd hf hw hm;rw[evC.eq_def]at he;simp only at he;have fin:∀(fr':List AV) (H':AH) C' μ' w' (a':Act),qy C' μ' fr' a'.tmps->Wld C' μ' H' w'->Ext H.length C μ H w C' μ' H' w'->a'.defers=a.defers->qaz k B C μ H w (.normal,fr',H') .normal a' w':=
   λfr' H' C' μ' w' a' g1 g2 g3 g4=>⟨rfl,C',μ',g1,g2,g3.less hk,by rw[g4];exact hm.ext g3⟩
  cases draw with
  |true=>
   simp only[if_true]at he;split at he
   case isFalse=>cases he
   rename_i hst;obtain⟨q,hq,he⟩:=qB6.1 he;split at he
   case isFalse=>cases he
   rename_i hdy;obtain⟨fps,fr',H'⟩:=q;cases he;exact qsY hc hO.calls hmx hrd.wide hst hq hdy hf hw (fin fr' H')
  |false=>
   simp only[qCg,if_false]at he;obtain⟨q,hq,e⟩:=qCb.1 he;obtain⟨fr',H'⟩:=q;cases e;refine wpIn_region ?_;have:=qdN hc hO.calls hrd.wide (Q:=qaz k B C μ H w (.normal,fr',H')) ops.toList 0 hq (λi=>by rw[Array.getElem?_toList,qCG]) hf hw (fin fr' H');rw[List.range_eq_range']
   simpa using this
 |seq x y ihx ihy=>
  intro fr H r he C μ w a hk hrd hf hw hm;rw[evC.eq_def]at he;simp only at he;split at he
  case h_1 p hp=>
   obtain⟨rfl,_⟩:=qiz hp;obtain⟨L,hL,he⟩:=qB6.1 he;refine wpIn_seq (qs3 hc hO.calls hmx hrd.wide hL hf hw λq hq C1 μ1 w1 a1 g1 g2 g3 g4=>?_);obtain⟨q2,hq2,e⟩:=qCb.1 (qp1 he q hq);subst e;have h4:=g3.less hk;refine wpIn_mono (ihy hq2 h4.len (hrd.ext h4.mu (qCa _)) (qaa g1) g2 (by rw[g4];exact hm.ext g3)) λe' a2 w2 hp2=>?_
   obtain⟨p1,C2,μ2,p2,p3,p4,p5⟩:=qaz.mono hp2 h4 (qCa _);obtain⟨μ3,r1,r2,r3⟩:=qoY p3 (qkB (dsts (.region p.1 p.2 true)++dsts y) p2) k p4.len;exact⟨p1,C2,μ3,r2,r1,p4.trans r3 (qCa _),p5.ext r3⟩
  obtain⟨q,hq,he⟩:=qB6.1 he;refine wpIn_seq (wpIn_mono (ihx hq hk hrd hf hw hm) λe a1 w1 hp=>?_);cases hq1:q.1 with
  |normal=>
   obtain⟨h1,C1,μ1,h2,h3,h4,h5⟩:=hp;rw[hq1]at h1 he;subst h1;refine wpIn_mono (ihy he h4.len (hrd.ext h4.mu (qCa _)) (qaa h2) h3 h5) λe' a2 w2 hp2=>hp2.mono h4 (qCa _)
  |exit id=>
   rw[hq1]at he;cases he;have:e= .exit id:=by rw[hp.1,hq1];rfl
   subst this;exact⟨rfl,hp.2⟩
  |goto l=>
   rw[hq1]at he;cases he;have:e= .goto l:=by rw[hp.1,hq1];rfl
   subst this;exact⟨rfl,hp.2⟩
  |ret=>
   rw[hq1]at he;cases he;have:e= .ret:=by rw[hp.1,hq1];rfl
   subst this;exact⟨rfl,hp.2⟩
 |cond c x y ihx ihy=>
  intro fr H r he C μ w a hk hrd hf hw hm;rw[evC.eq_def]at he;simp only at he;split at he
  case h_2=>cases he
  rename_i t ht;have hcr:=qbr hf c;rw[ht]at hcr;generalize hv:a.eval c=v at hcr;cases hcr;cases t with
  |true=>exact wpIn_cond_true hv (ihx (by simpa using he) hk hrd hf hw hm)
  |false=>exact wpIn_cond_false hv (ihy (by simpa using he) hk hrd hf hw hm)
 |block id x ih=>
  intro fr H r he C μ w a hk hrd hf hw hm;rw[evC.eq_def]at he;simp only at he;obtain⟨q,hq,he⟩:=qB6.1 he;refine wpIn_block (wpIn_mono (ih hq hk hrd hf hw hm) λe a1 w1 hp=>?_);cases hq1:q.1 with
  |normal=>
   rw[hq1]at he;cases he;have:e= .normal:=by rw[hp.1,hq1];rfl
   subst this;exact hp
  |exit id'=>
   rw[hq1]at he;simp only at he;have:e= .exit id':=by rw[hp.1,hq1];rfl
   subst this;simp only[Exit.inBlock]
   by_cases e:id'=id
   ·subst e;rw[qCM (qCw _)]at he;cases he;rw[qCM rfl];exact⟨rfl,hp.2⟩
   ·have:¬qCh id' id=true:=λh=>e (qB9 h)
    rw[qCN this]at he;cases he;rw[qCN e];exact hp
  |goto l=>
   rw[hq1]at he;cases he;have:e= .goto l:=by rw[hp.1,hq1];rfl
   subst this;exact hp
  |ret=>
   rw[hq1]at he;cases he;have:e= .ret:=by rw[hp.1,hq1];rfl
   subst this;exact hp
 |loop x ih=>
  intro fr H r he C μ w a hk hrd hf hw hm;rw[evC.eq_def]at he;simp only at he;obtain⟨q,hq,e⟩:=qCb.1 he;obtain⟨n,hn⟩:=qbu hq;obtain⟨μ',g1,g2,g3⟩:=qoT hw hf (cfg.keepIn f (qh x)) (cfg.lift f (qh x)) k hk;refine wpIn_mono (wpIn_loop_rounds n (qiq (rd:=rd) (λhq=>ih hq) hk n hn g3.len (hrd.ext g3.mu (qCa _)) g2 g1 (hm.ext g3) g3)) λe' a' w' hp=>?_
  obtain⟨h1,C1,μ1,h2,h3,h4,h5⟩:=hp;subst e;exact⟨h1,C1,μ1,qaa h2,h3,h4,h5⟩
 |scope x ih=>
  intro fr H r he C μ w a hk hrd hf hw hm;rw[evC.eq_def]at he;simp only at he;obtain⟨q,hq,he⟩:=qB6.1 he;have hqr:(∀l,q.1≠.goto l)∧q=r:=by
   cases hq1:q.1 with
   |goto l=>rw[hq1]at he;cases he
   |normal=>rw[hq1]at he;simp only[Option.some.injEq]at he;exact⟨nofun,he⟩
   |exit id=>rw[hq1]at he;simp only[Option.some.injEq]at he;exact⟨nofun,he⟩
   |ret=>rw[hq1]at he;simp only[Option.some.injEq]at he;exact⟨nofun,he⟩
  obtain⟨h1,rfl⟩:=hqr;refine qpG (ih hq hk hrd hf hw hm) λl a1 w1 hp=>?_
  have:=hp.1;cases hq1:q.1 with
  |goto l=>exact h1 l hq1
  |_=>rw[hq1]at this;cases this
 |rangeFunc g ps assign body=>
  intro fr H r he C μ w a hk hrd hf hw hm;rw[evC.eq_def]at he;simp only at he;obtain⟨a1,a2,a3,a4⟩:=qch (cfg.lift f (qh body)) hw hf;exact wpIn_mono (qjV hO he (Nat.le_trans hk a3) hrd a2 a1 (hm.ext (a4 k hk))) λe a' w' hp=>hp.mono (a4 k hk) (qCa _)
def qd8(tmps:Array Value):ResultVar->Sem Value
 | .tmp t=>pure (tmps.getD t undef)
 | .cell a t=>do loadVar t (←asAddr (tmps.getD a undef))
theorem qb5[Lent]{cfg:Cfg}(hc:CfgTy cfg){fr:List AV}{tmps:Array Value}(hf:qy C μ fr tmps)(hw:Wld C μ H w):∀(rs:List ResultVar) {vs:List AV},xE rs cfg.ty fr H=some vs ->
  ∃us:List Value,(rs.mapM (qd8 tmps)).run cfg.P w= .ok us w∧vs.length=us.length ∧
   ∀(i:Nat) a v,vs[i]? =some a->us[i]? =some v->Rep C μ a v
 |[],vs,he=>by
  simp only[xE]at he;cases he;exact⟨[],by simp,rfl,λi a v h=>by simp at h⟩
 | .tmp t::l,vs,he=>by
  simp only[xE]at he;obtain⟨vs',hvs,e⟩:=qCb.1 he;cases e;obtain⟨us,h1,h2,h3⟩:=qb5 hc hf hw l hvs;refine⟨tmps.getD t undef::us,?_,by simp[h2],λi a v e1 e2=>?_⟩
  ·simp only[List.mapM_cons,Sem.run_bind,qd8,Sem.run_pure,Result.andThen_ok,h1]
  ·cases i with
   |zero=>simp at e1 e2;subst e1;subst e2;simpa [opd,Act.eval]using qbr (a:=⟨tmps,[]⟩) hf (.tmp t)
   |succ i=>exact h3 i a v (by simpa using e1) (by simpa using e2)
 | .cell a t::l,vs,he=>by
  simp only[xE]at he;split at he
  case h_2=>cases he
  rename_i ti hti;obtain⟨x,hx,he⟩:=qB6.1 he;obtain⟨vs',hvs,e⟩:=qCb.1 he;cases e;obtain⟨us,h1,h2,h3⟩:=qb5 hc hf hw l hvs;have hr:Rep C μ (fr.getD a .junk) (tmps.getD a undef):=by simpa [opd,Act.eval]using qbr (a:=⟨tmps,[]⟩) hf (.tmp a)
  obtain⟨ad,u,g1,g2,g3⟩:=qkc hw (hc.ty _ _ hti) hr hx;refine⟨u::us,?_,by simp[h2],λi a v e1 e2=>?_⟩
  ·have ga:(qd8 tmps (.cell a t)).run cfg.P w= .ok u w:=by simp only[qd8,g1,asAddr,Sem.run_bind,Sem.run_pure,Result.andThen_ok,g2]
   simp only[List.mapM_cons,Sem.run_bind,ga,Sem.run_pure,Result.andThen_ok,h1]
  ·cases i with
   |zero=>simp at e1 e2;subst e1;subst e2;exact g3
   |succ i=>exact h3 i a v (by simpa using e1) (by simpa using e2)
theorem qm1[Lent]{cfg:Cfg}(hc:CfgTy cfg){fn:Func}{fr:List AV}{tmps:Array Value}(hf:qy C μ fr tmps)(hw:Wld C μ H w){vs:List AV}(he:xE fn.results.toList cfg.ty fr H=some vs):
  ∃v,(results fn tmps).run cfg.P w= .ok v w∧Rep C μ (zc vs) v:=by
 obtain⟨us,h1,h2,h3⟩:=qb5 hc hf hw _ he;refine⟨if h:us.toArray.size=1 then us.toArray[0]else .tuple us.toArray,?_,?_⟩
 ·have hr:results fn tmps=(fn.results.mapM (qd8 tmps) >>= λvs=>pure (if h:vs.size=1 then vs[0]else .tuple vs)):=rfl;rw[hr,Array.mapM_eq_mapM_toList];simp only[Sem.run_bind,Sem.run_map,Result.andThen_ok,Sem.run_pure,h1]
 ·cases us with
  |nil=>
   cases vs with
   |nil=>exact .tup [] [] rfl (λi a v h=>by simp at h)
   |cons x l=>simp at h2
  |cons u us=>
   cases vs with
   |nil=>simp at h2
   |cons x l=>
    cases us with
    |nil=>
     cases l with
     |nil=>simpa [zc]using h3 0 x u rfl rfl
     |cons y l=>simp at h2
    |cons u' us=>
     cases l with
     |nil=>simp at h2
     |cons y l=>
      have:zc (x::y::l)= .tup (x::y::l):=rfl;rw[this,dif_neg (by simp)];exact .tup _ _ h2 h3
theorem qqE{cfg:Cfg}{rs:List ResultVar}{q:Ex×List AV×AH}{r:AV}(h:qb0 cfg rs q=some (r,H')):(q.1= .normal∨q.1= .ret)∧H'=q.2.2∧∃vs,xE rs cfg.ty q.2.1 q.2.2=some vs∧r=zc vs:=by
 unfold qb0 at h;split at h
 ·rename_i hq;obtain⟨vs,h1,e⟩:=qCb.1 h;cases e;exact⟨.inl hq,rfl,vs,h1,rfl⟩
 ·rename_i hq;obtain⟨vs,h1,e⟩:=qCb.1 h;cases e;exact⟨.inr hq,rfl,vs,h1,rfl⟩
 ·cases h
theorem qgB[Lent]{fn:Func}{tmps:Array Value}{R:Ending->World->Prop}{B k:Nat}{C0:qu}{μ0:MMap}{H0:AH}{w0:World}(hB:B=w0.heap.size)(hend:∀w',Wld C μ H w'->Ext k C0 μ0 H0 w0 C μ H w'->∃v,(results fn tmps).run P w'= .ok v w'∧R (.returned v) w'):∀(Ds:List Nat) {w:World},Ds.Nodup->(∀D∈Ds,B<=D∧w.heap[D]? =some (.deferred (some []))∧¬Live H μ D) ->
   Wld C μ H w->Ext k C0 μ0 H0 w0 C μ H w->LeavesInM Fence.wide 0 P fn tmps R (Ds.map mark) .returning w
 |[],w,_,_,hw,hx=>hend w hw hx
 |D::Ds,w,hnd,hD,hw,hx=>by
  obtain⟨d1,d2,d3⟩:=hD D (List.mem_cons_self ..);obtain⟨hnm,hnd'⟩:=List.nodup_cons.1 hnd;refine⟨by simp,.inl ⟨D,_,rfl,run_takeDeferred d2,?_⟩⟩;have hne:∀b,b≠D->(w.putObj D (.deferred none)).heap[b]? =w.heap[b]? :=λb hb=>World.putObj_heap_other hb
  refine qgB hB hend Ds hnd' (λD' hD'=>?_) (hw.worldG (by simp) (λb hb hor=>hne b λe=>?_)) ⟨hx.os,hx.tape,hx.output,by simpa using hx.size,hx.cl,hx.mu,λb hb hnl=>?_,hx.len⟩
  ·obtain⟨g1,g2,g3⟩:=hD D' (List.mem_cons_of_mem _ hD');exact⟨g1,by rw[hne D' (λe=>hnm (by rw[←e];exact hD'))];exact g2,g3⟩
  ·subst e;rcases hor with hl|⟨o,hc⟩|⟨o,hc⟩
   ·exact d3 hl
   ·cases hco:C b o with
    |none=>exact hc hco
    |some v=>
     have:=hw.cl b o v hco;simp only[World.cell?,d2]at this;cases this
   ·cases hco:Lent.l b o with
    |none=>exact hc hco
    |some v=>
     have:=(hw.lnt.1 b o v hco).1;simp only[World.cell?,d2]at this;cases this
  ·obtain⟨f1,f2,f3⟩:=hx.fr b hb hnl;exact⟨by rw[hne b (by omega)];exact f1,f2,f3⟩
variable {C C' C1 C2 : qu} {μ μ' μ1 : MMap} {H H' H1 H2 : AH} {w w' w1 : World} {P : Program}
structure CfgOk [Lent] (cfg:Cfg):Prop where
 ty:CfgTy cfg
 mixed:cfg.P.follows .mixedOrders=true
 named:∀f fn,cfg.known f=true→cfg.P.funcs[f]? =some fn→(fn.name== "runtime.NumGoroutine")=false
 ext:∀f s,cfg.ext f=some s→∀args H r H',s args H=some (r,H')→∀C μ w vs,qy C μ args vs→Wld C μ H w→vM cfg.P (callFunc f vs) w (xJ C μ H w r H')
theorem qrY {f:FuncId} {fn:Func} {c:Code} (hf:P.funcs[f]? =some fn) (hn:(fn.name== "runtime.NumGoroutine")=false) (hb:fn.body=some c) (vs:Array Value) (w:World):(callFunc f vs).run P w= .ok (.enter f vs) w:=by
 unfold callFunc;simp only[Sem.run_bind,run_program,Result.andThen_ok,hf,hn,hb,Option.isNone_some,qCg,if_false];simp
theorem qx4[Lent]{args:List AV}{vs:Array Value}(h:qy C μ args vs)(n:Nat):qy C μ (args++qCr (n - args.length) .junk) (vs++Array.replicate (n - vs.size) undef):=by
 refine⟨by simp[h.1],λi a v e1 e2=>?_⟩;rcases Nat.lt_or_ge i args.length with hlt|hge
 ·rw[qCf hlt]at e1;rw[Array.getElem?_append_left (by rw[←h.1];exact hlt)]at e2;exact h.2 i a v e1 e2
 ·rw[qCo hge]at e1;have:=qCc e1;rw[List.mem_replicate]at this;rw[this.2];exact .junk v
theorem qfr[Lent]:∀(ps:List Tmp) {args:List AV} {vs:List Value} {fr:List AV} {tmps:Array Value},(∀(i:Nat) a v,args[i]? =some a->vs[i]? =some v->Rep C μ a v)->args.length=vs.length->qy C μ fr tmps ->
  qy C μ (yj fr ps args) ((ps.zip vs).foldl (λt (p,v)=>t.setIfInBounds p v) tmps)
 |[],args,vs,fr,tmps,_,_,hf=>by cases args<;>simpa [yj]using hf
 |p::ps,[],vs,fr,tmps,_,hl,hf=>by
  have:vs=[]:=List.eq_nil_of_length_eq_zero (by simpa using hl.symm);subst this
  simpa [yj]using hf
 |p::ps,x::args,[],fr,tmps,_,hl,hf=>by simp at hl
 |p::ps,x::args,v::vs,fr,tmps,h,hl,hf=>by
  rw[yj,List.zip_cons_cons,List.foldl_cons];refine qfr ps (λi a u e1 e2=>h (i+1) a u (by simpa using e1) (by simpa using e2)) (by simpa using hl) ?_;exact qbp (a:=⟨tmps,[]⟩) (dst:=some p) hf (h 0 x v rfl rfl)
theorem quT[Lent]{cfg:Cfg}(ok:CfgOk cfg){cf:Orac}(hO:OracOk2 cfg cf){f:Nat}{fn:Func}{c:Code}{args:List AV}{vs:Array Value}{r:AV}(hf:cfg.P.funcs[f]? =some fn)(hb:fn.body=some c)(he:((evC cfg cf f none H.length c (args++qCr (fn.ntmps - args.length) .junk) H).bind λr=>qb0 cfg fn.results.toList (r.1,vr (cfg.lift f 0) r.2.1 r.2.2))=some (r,H'))(ha:qy C μ args vs)(hw:Wld C μ H w):
  CallsIn Fence.wide 0 cfg.P f vs w λe w'=>∃v,e= .returned v∧xJ C μ H w r H' v w':=by
 obtain⟨q,hq,he⟩:=qB6.1 he;obtain⟨h1,rfl,us,h3,rfl⟩:=qqE he;refine callsIn_of_wp_marks hf hb trivial (wpIn_mono (qgT ok.ty hO ok.mixed (B:=w.heap.size) c hq (F:=Fence.wide) (qCa _) rfl (qx4 ha fn.ntmps) hw ⟨qCa _,[],rfl,List.nodup_nil,λD h=>by cases h⟩) λe a' w' hp=>?_);obtain⟨e1,C',μ',e2,e3,e4,hmk⟩:=hp;obtain⟨l1,l2,l3,l4⟩:=qch (cfg.lift f 0) e3 e2
 obtain⟨hB,Ds,m1,m2,m3⟩:=hmk.ext (l4 _ (qCa _));replace e2:=l2;replace e4:=e4.trans (l4 _ e4.len) (qCa _);replace e3:=l1;have hl:LeavesInM Fence.wide 0 cfg.P fn a'.tmps (λe w'=>∃v,e= .returned v∧xJ C μ H w (zc us) (vr (cfg.lift f 0) q.2.1 q.2.2).2 v w') a'.defers .returning w':=by
  rw[m1];refine qgB rfl (λw2 g1 g2=>?_) Ds m2 m3 e3 e4;obtain⟨v,r1,r2⟩:=qm1 ok.ty e2 g1 h3;exact⟨v,r1,v,rfl,C',μ',r2,g1,g2⟩
 rcases h1 with h1|h1
 ·rw[h1]at e1;subst e1;exact hl
 ·rw[h1]at e1;subst e1;exact hl
theorem qp2[Lent]{cfg:Cfg}(ok:CfgOk cfg){cf:Orac}(hO:OracOk2 cfg cf){id:Nat}{args:List AV}{vs:Array Value}{r:AV}(he:xn cfg cf (.y id) args H=some (r,H'))(ha:qy C μ args vs)(hw:Wld C μ H w){m:MI}(hm:μ id=some m):
  vM cfg.P (Instr.yield m.block vs) w (xJ C μ H w r H'):=by
 unfold xn at he;simp only at he;split at he
 case h_2=>cases he
 rename_i f fr ps assign body pend hid;split at he
 case isFalse=>cases he
 rename_i hlen;obtain⟨q1,hq1,he⟩:=qB6.1 he;split at he
 case h_2=>cases he
 rename_i f1 fr1 ps1 assign1 body1 pend1 hx1 hid1;obtain⟨q2,hq2,he⟩:=qB6.1 he;split at he
 case h_2=>cases he
 rename_i f2 fr2 ps2 assign2 body2 pend2 st2 hid2;obtain⟨i2,i3,rc,i4,i5,i6,i7,i8,i9,i10⟩:=hw.liveM hid rfl hm;have hidl:id<H.length:=(qB5.1 hid).1;have hvs:vs.size=rc.params.size:=by rw[←ha.1,hlen,←i7];simp
 unfold vM;rw[run_yield i4 hvs];simp only;rw[i8,i9];have htm:((rc.params.zip vs).foldl (λtmps (t,a)=>tmps.setIfInBounds t a) rc.tmps)=((ps.zip vs.toList).foldl (λt (p,v)=>t.setIfInBounds p v) rc.tmps):=by
  rw[←Array.foldl_toList,Array.toList_zip,i7]
 have hfr0:qy C μ (yj fr ps args) ((rc.params.zip vs).foldl (λtmps (t,a)=>tmps.setIfInBounds t a) rc.tmps):=by
  rw[htm];exact qfr ps (λi a v e1 e2=>ha.2 i a v e1 (by rw[←Array.getElem?_toList];exact e2)) (by rw[ha.1];simp) i10
 have hrd:RdOk (some id) (Fence.wide.inRound m.block) μ H.length:=⟨hidl,m,hm,rfl⟩;refine roundIn_of_wpIn trivial (wpIn_mono (qgT ok.ty hO ok.mixed (B:=w.heap.size) assign hq1 (a:=⟨_,[]⟩) (qCa _) hrd hfr0 hw ⟨qCa _,[],rfl,List.nodup_nil,λD h=>by cases h⟩) λe a1 w1 hp=>?_);obtain⟨e1,C1,μ1,p1,p2,p3,p4⟩:=hp;rw[hx1]at e1;subst e1;obtain⟨m1,hm1,hb1,-⟩:=p3.mu id m hidl hm;obtain⟨j2,j3,rc1,j4,j5,j6,j7,j8,j9,j10⟩:=p2.liveM hid1 rfl hm1
 rw[hb1]at j2 j3 j4;have hidl1:id<q1.2.2.length:=(qB5.1 hid1).1;refine⟨_,run_beginRound j4 j5,?_⟩;have hw2:Wld C1 μ1 (q1.2.2.set id (.loop f1 fr1 ps1 assign1 body1 pend1 .busy)) (w1.putObj m.block (.loop { rc1 with state:=.busy })):=
  p2.setBlk hid1 rfl rfl hm1 (by simp) (λb hb=>World.putObj_heap_other (hb1▸hb)) ⟨{ rc1 with state:=.busy },by rw[hb1];exact World.putObj_heap_same j2,rfl,j6,j7,j8,j9,j10⟩
 have hx2:Ext q1.2.2.length C1 μ1 q1.2.2 w1 C1 μ1 (q1.2.2.set id (.loop f1 fr1 ps1 assign1 body1 pend1 .busy)) (w1.putObj m.block (.loop { rc1 with state:=.busy })):=
  Ext.setBlk p2 hid1 rfl hm1 (by simp) (λb hb=>World.putObj_heap_other (hb1▸hb)) rfl rfl rfl (qCa _)
 have hx12:=p3.trans hx2 p3.len;have hrd2:RdOk (some id) (Fence.wide.inRound m.block) μ1 H.length:=⟨hidl,m1,hm1,by rw[hb1]⟩;refine wpIn_mono (qgT ok.ty hO ok.mixed (B:=w.heap.size) body hq2 (by simpa using p3.len) hrd2 p1 hw2 (p4.ext hx2)) λe a2 w3 hp=>?_
 obtain⟨e2,C3,μ3,g1,g2,g3,g4⟩:=hp;obtain⟨m3,hm3,hb3,-⟩:=g3.mu id m1 hidl hm1;rw[hb1]at hb3;obtain⟨k2,k3,rc3,k4,k5,k6,k7,k8,k9,k10⟩:=g2.liveM hid2 rfl hm3;rw[hb3]at k2 k3 k4;have fin:∀(jump:Option Code),∃v w4,(Instr.endRound m.block jump).run cfg.P w3= .ok v w4 ∧
   xJ C μ H w (.bool jump.isNone) (q2.2.2.set id (.loop f2 fr2 ps2 assign2 body2 jump (if jump.isNone then .ready else .done))) v w4:=by
  intro jump;refine⟨_,_,run_endRound jump k4,C3,μ3,.bool _,?_,?_⟩
  ·exact g2.setBlk hid2 rfl rfl hm3 (by simp) (λb hb=>World.putObj_heap_other (hb3▸hb)) ⟨{ rc3 with state:=if jump.isNone then .ready else .done,pending:=jump },by rw[hb3];exact World.putObj_heap_same k2,rfl,rfl,k7,k8,k9,k10⟩
  ·have:=Ext.setBlk (k:=q2.2.2.length) (blk':=.loop f2 fr2 ps2 assign2 body2 jump (if jump.isNone then .ready else .done)) g2 hid2 rfl hm3 (w':=w3.putObj m.block (.loop { rc3 with state:=if jump.isNone then .ready else .done,pending:=jump })) (by simp) (λb hb=>World.putObj_heap_other (hb3▸hb)) rfl rfl rfl (qCa _);exact(hx12.trans g3 (qCa _)).trans this (hx12.trans g3 (qCa _)).len
 split at he
 ·rename_i hx;cases he;rw[hx]at e2;subst e2;obtain⟨v,w4,r1,r2⟩:=fin none;exact⟨v,w4,r1,v,rfl,r2⟩
 ·rename_i hx;cases he;rw[hx]at e2;subst e2;obtain⟨v,w4,r1,r2⟩:=fin (some .ret);exact⟨v,w4,r1,v,rfl,r2⟩
 ·rename_i x hx;cases he;rw[hx]at e2;subst e2;obtain⟨v,w4,r1,r2⟩:=fin (some (.exit x));exact⟨v,w4,r1,v,rfl,r2⟩
 ·cases he
theorem qo7[Lent]{cfg:Cfg}(ok:CfgOk cfg){cf:Orac}(hO:OracOk2 cfg cf):OracOk2 cfg (xn cfg cf):=by
 have key:∀f args H r,xn cfg cf (.f f) args H=some r->cfg.ext f=none->∃fn c,cfg.known f=true∧cfg.P.funcs[f]? =some fn∧fn.body=some c∧((evC cfg cf f none H.length c (args++qCr (fn.ntmps - args.length) .junk) H).bind λr=>qb0 cfg fn.results.toList (r.1,vr (cfg.lift f 0) r.2.1 r.2.2))=some r:=by
  intro f args H r he hx;unfold xn at he;simp only[hx]at he;split at he
  case isFalse=>cases he
  rename_i hk;split at he
  case h_2=>cases he
  rename_i fn hf;split at he
  case h_2=>cases he
  rename_i c hb;exact⟨fn,c,hk,hf,hb,he⟩
 have enters:∀h args H r,xn cfg cf (.f h) args H=some r->cfg.ext h=none->∀vs w,(callFunc h vs).run cfg.P w= .ok (.enter h vs) w:=by
  intro h args H r he hx vs w;obtain⟨fn,c,h1,h2,h3,_⟩:=key h args H r he hx;exact qrY h2 (ok.named _ _ h1 h2) h3 vs w
 refine⟨λt args H r H' he C μ w vs s ha hw ht=>?_,enters⟩;cases t with
 |f f=>
  have hs:s=callFunc f vs:=ht;subst hs;cases hx:cfg.ext f with
  |some sp=>
   unfold xn at he;simp only[hx]at he;exact ok.ext f sp hx args H r H' he C μ w vs ha hw
  |none=>
   unfold vM;rw[enters _ _ _ _ he hx];obtain⟨fn,c,_,h2,h3,h4⟩:=key _ _ _ _ he hx;exact quT ok hO h2 h3 h4 ha hw
 |y id=>
  obtain⟨m,hm,hs⟩:=ht;subst hs;exact qp2 ok hO he ha hw hm
theorem qgS[Lent]{cfg:Cfg}(ok:CfgOk cfg):∀n,OracOk2 cfg (evF cfg n)
 |0=>⟨λt args H r H' he=>(by cases he),λh args H r he=>(by cases he)⟩
 |n+1=>qo7 ok (qgS ok n)
theorem qja[Lent]{cfg:Cfg}(ok:CfgOk cfg):OracOk2 cfg (EV cfg):=by
 refine⟨λt args H r H' he=>?_,λh args H r he=>?_⟩
 ·obtain⟨n,hn⟩:=qbu he;exact(qgS ok n).calls t args H r H' hn
 ·obtain⟨n,hn⟩:=qbu he;exact(qgS ok n).enters h args H r hn
theorem qxm[Lent]{cfg:Cfg}(ok:CfgOk cfg){f:FuncId}{args:List AV}{vs:Array Value}{r:AV}(hx:cfg.ext f=none)(he:EV cfg (.f f) args H=some (r,H'))(ha:qy C μ args vs)(hw:Wld C μ H w):
  Calls cfg.P f vs w λe w'=>∃v,e= .returned v∧xJ C μ H w r H' v w':=by
 have hO:=qja ok;have h:=hO.calls _ _ _ _ _ he C μ w vs _ ha hw rfl;unfold vM at h;rw[hO.enters _ _ _ _ he hx]at h;exact callsIn_wide.1 h
noncomputable section
variable {α β : Type}
def EvG(cf:Nat->Orac)(c:Orac)(G:Orac->Option α):Prop:=∀r,G c=some r->∃n,∀m,n<=m->G (cf m)=some r
def Ev(cf:Nat->Orac)(c:Orac):Prop:=∀t a H,EvG cf c (λo=>o t a H)
variable {cf : Nat → Orac} {c : Orac}
theorem EvG.const(x:Option α):EvG cf c (λ_=>x):=λ_r h=>⟨0,λ_ _=>h⟩
theorem EvG.bind{X:Orac->Option α}{K:Orac->α->Option β}(hX:EvG cf c X)(hK:∀a,EvG cf c (λo=>K o a)):EvG cf c (λo=>(X o).bind (K o)):=by
 intro r h;obtain⟨a,h1,h2⟩:=qB6.1 h;obtain⟨n,hn⟩:=hX a h1;obtain⟨n',hn'⟩:=hK a r h2;exact⟨max n n',λm hm=>by
  show(X (cf m)).bind (K (cf m))=some r;rw[hn m (by omega)];exact hn' m (by omega)⟩
theorem EvG.map{X:Orac->Option α}(f:α->β)(hX:EvG cf c X):EvG cf c (λo=>(X o).map f):=by
 intro r h;obtain⟨a,h1,h2⟩:=qCb.1 h;obtain⟨n,hn⟩:=hX a h1;exact⟨n,λm hm=>by
  show(X (cf m)).map f=some r;rw[hn m hm,←h2];rfl⟩
theorem EvG.ite{p:Prop}[Decidable p]{X Y:Orac->Option α}(hX:EvG cf c X)(hY:EvG cf c Y):EvG cf c (λo=>if p then X o else Y o):=by
 by_cases h:p
 ·simp only[qCM h];exact hX
 ·simp only[qCN h];exact hY
theorem qgX(h:Ev cf c)(cfg:Cfg)(nid:Option Nat)(t:Tgt)(args:List AV)(H:AH):EvG cf c (λo=>vj cfg o nid t args H):=by
 cases t with
 |y id=>exact(h _ _ _).bind λr=>EvG.const _
 |f f=>
  simp only[vj];cases cfg.mode f with
  |scal=>exact EvG.ite ((h _ _ _).bind λr=>EvG.const _) (EvG.const _)
  |pfrz=>exact EvG.ite ((h _ _ _).bind λr=>EvG.const _) (EvG.const _)
  |pown=>exact EvG.ite ((h _ _ _).bind λr=>EvG.const _) (EvG.const _)
  |inpl=>
   cases vg 0 args with
   |nil=>exact EvG.ite ((h _ _ _).bind λr=>EvG.const _) (EvG.const _)
   |cons id l=>
    refine EvG.ite ?_ (EvG.const _);cases hb:H[id]? with
    |none=>exact EvG.const _
    |some b=>
     cases b with
     |rows d sz rs=>exact EvG.ite ((h _ _ _).bind λr=>EvG.const _) (EvG.const _)
     |_=>exact EvG.const _
  |inpf=>
   cases vg 0 args with
   |nil=>exact EvG.const _
   |cons id l=>
    refine EvG.ite ?_ (EvG.const _);cases hb:H[id]? with
    |none=>exact EvG.const _
    |some b=>
     cases b with
     |rows d sz rs=>exact EvG.ite ((h _ _ _).bind λr=>EvG.const _) (EvG.const _)
     |_=>exact EvG.const _
  |slf=>
   cases vg 0 args with
   |nil=>exact EvG.const _
   |cons id l=>
    refine EvG.ite ?_ (EvG.const _);cases hb:H[id]? with
    |none=>exact EvG.const _
    |some b=>
     cases b with
     |rows d sz rs=>exact EvG.ite ((h _ _ _).bind λr=>EvG.const _) (EvG.const _)
     |_=>exact EvG.const _
  |imp=>exact(h _ _ _).bind λr=>EvG.const _
  |ifrz=>exact(h _ _ _).bind λr=>EvG.const _
theorem qpl(h:Ev cf c)(cfg:Cfg)(nid:Option Nat)(t:Tgt)(args:List AV)(H:AH):EvG cf c (λo=>xh cfg o nid t args H):=by
 unfold xh;split
 ·intro r hr;simp only at hr;split at hr
  case h_2=>cases hr
  rename_i a b h1 h2;obtain⟨n1,hn1⟩:=qgX h cfg nid t _ H _ h1;obtain⟨n2,hn2⟩:=qgX h cfg nid t _ H _ h2;refine⟨max n1 n2,λm hm=>?_⟩;have g1:vj cfg (cf m) nid t [.nilS] H=some a:=hn1 m (by omega);have g2:vj cfg (cf m) nid t [.em] H=some b:=hn2 m (by omega);simp only[g1,g2];exact hr
 ·exact qgX h cfg nid t args H
theorem qgQ(h:Ev cf c)(cfg:Cfg)(frz:Bool)(nid:Option Nat)(o:Oper)(x:Operand->AV)(H:AH):EvG cf c (λq=>ve cfg q frz nid o x H):=by
 have core:∀(x:Operand->AV) (H:AH),EvG cf c (λq=>match o.op with
    | .call cl=>
     match cl.callee with
     | .value f=>(yH (x f) (cl.args.toList.map x)).bind λt=>xh cfg q nid t.1 t.2 H
     |_=>evOp cfg nid o.op o.type x H
    |_=>evOp cfg nid o.op o.type x H):=by
  intro x H;split
  ·split
   ·exact(EvG.const _).bind λt=>qpl h cfg nid _ _ _
   ·exact EvG.const _
  ·exact EvG.const _
 unfold ve;cases frz with
 |true=>simp only[if_true];exact core _ _
 |false=>simp only[qCg,if_false];exact core _ _
theorem qe7(h:Ev cf c)(cfg:Cfg)(f rid:Nat)(ops:Array Oper):∀(l:List Oper) (k:Nat) (fr:List AV) (H:AH),EvG cf c (λq=>y4 cfg q f rid ops k l fr H)
 |[],k,fr,H=>EvG.const _
 |o::l,k,fr,H=>by
  simp only[y4];refine(EvG.const _).bind λb=>EvG.ite ((qgQ h cfg _ _ _ _ _).bind λr=>qe7 h cfg f rid ops l _ _ _) (qe7 h cfg f rid ops l _ _ _)
theorem qdq(h:Ev cf c)(cfg:Cfg)(f rid:Nat)(ops:Array Oper):∀(l:List Oper) (k at_:Nat) (fr:List AV) (H:AH),EvG cf c (λq=>xN cfg q f rid ops k at_ l fr H)
 |[],k,at_,fr,H=>EvG.const _
 |o::l,k,at_,fr,H=>by
  simp only[xN];refine(EvG.const _).bind λb=>EvG.ite ((qgQ h cfg _ _ _ _ _).bind λr=>(qdq h cfg f rid ops l _ _ _ _).map _) ((qdq h cfg f rid ops l _ _ _ _).map _)
theorem qkb{k:Nat}{ts:Option (List Tmp)}{ls:List (Tmp×Nat)}{body:Den}:∀{n:Nat} {p:List AV×AH} {r:Ex×List AV×AH},x8 k ts ls body n p=some r->x8 k ts ls body (n+1) p=some r
 |0,_,_,h=>by cases h
 |n+1,p,r,h=>by
  rw[x8]at h⊢;obtain⟨q,h1,h2⟩:=qB6.1 h;rw[h1];simp only[qCe];cases hq:q.1 with
  |normal=>
   rw[hq]at h2;exact qkb h2
  |exit id=>rw[hq]at h2;exact h2
  |goto l=>rw[hq]at h2;exact h2
  |ret=>rw[hq]at h2;exact h2
theorem quv{g:Nat->Option α}(hs:∀n r,g n=some r->g (n+1)=some r){n:Nat}{r:α}(h:g n=some r):lim g=some r:=by
 have up:∀{n:Nat} {r:α},g n=some r->∀d,g (n+d)=some r:=by
  intro n r h d
  induction d with
  |zero=>exact h
  |succ d ih=>exact hs _ _ ih
 have he:∃(n:Nat) (r:α),g n=some r:=⟨n,r,h⟩;unfold lim;rw[dif_pos he];have hc:=Classical.choose_spec (Classical.choose_spec he);have e1:=up h (Classical.choose he);have e2:=up hc n;rw[Nat.add_comm]at e2;rw[e1]at e2;exact e2.symm
theorem qen{k:Nat}{ts:Option (List Tmp)}{ls:List (Tmp×Nat)}{body:Den}{n:Nat}{p:List AV×AH}{r:Ex×List AV×AH}(h:x8 k ts ls body n p=some r):LOOP k ts ls body p=some r:=
 quv (g:=λn=>x8 k ts ls body n p) (λ_ _ h=>qkb h) h
theorem qox{k:Nat}{ts:Option (List Tmp)}{ls:List (Tmp×Nat)}{body:Orac->Den}(hb:∀fr H,EvG cf c (λq=>body q fr H)):∀(n:Nat) (p:List AV×AH),EvG cf c (λq=>x8 k ts ls (body q) n p)
 |0,_=>EvG.const _
 |n+1,p=>by
  simp only[x8];refine(hb _ _).bind λr=>?_
  cases r.1 with
  |normal=>exact qox hb n _
  |exit id=>exact EvG.const _
  |goto l=>exact EvG.const _
  |ret=>exact EvG.const _
theorem qzi{k:Nat}{ts:Option (List Tmp)}{ls:List (Tmp×Nat)}{body:Orac->Den}(hb:∀fr H,EvG cf c (λq=>body q fr H))(p:List AV×AH):EvG cf c (λq=>LOOP k ts ls (body q) p):=by
 intro r h;obtain⟨n,hn⟩:=qbu h;obtain⟨m,hm⟩:=qox hb n p r hn;exact⟨m,λi hi=>qen (hm i hi)⟩
theorem qi0(h:Ev cf c)(cfg:Cfg)(f rid:Nat)(ops:Array Oper):∀(n:Nat) (D:List Nat) (fr:List AV) (H:AH),EvG cf c (λq=>zr cfg q f rid ops n D fr H)
 |0,D,fr,H=>EvG.const _
 |n+1,D,fr,H=>by
  simp only[zr];refine EvG.ite (EvG.const _) ?_;have key:∀l:List (Nat×Oper),EvG cf c (λq=>qbd (λi fr H=>zr cfg q f rid ops n (i::D) fr H) (λi o=>qb1 cfg q f rid ops i o fr H) l):=by
   intro l
   induction l with
   |nil=>exact EvG.const _
   |cons p l ih=>
    simp only[qbd];refine EvG.bind ?_ λq=>(qi0 h cfg f rid ops n _ _ _).bind λL=>ih.map _
    simp only[qb1];exact(EvG.const _).bind λb=>EvG.ite ((qgQ h cfg _ _ _ _ _).map _) (EvG.const _)
  exact key _
theorem qrX{F:Orac->List AV->AH->Option (Ex×List AV×AH)}(hF:∀fr H,EvG cf c (λq=>F q fr H))(l:List (List AV×AH)):EvG cf c (λq=>zC (F q) l):=by
 have key:∀(r:Ex×List AV×AH) (l:List (List AV×AH)),zf (F c) r l=true->∃n,∀m,n<=m->zf (F (cf m)) r l=true:=by
  intro r l
  induction l with
  |nil=>intro _;exact⟨0,λ_ _=>rfl⟩
  |cons x l ih=>
   intro h;simp only[zf,qB2]at h;obtain⟨n1,hn1⟩:=ih h.2;have h1:=h.1;split at h1
   ·rename_i r' hr';obtain⟨n2,hn2⟩:=hF _ _ _ hr';refine⟨max n1 n2,λm hm=>?_⟩;simp only[zf,qB2];have h2:F (cf m) x.1 x.2=some r':=hn2 m (by omega);exact⟨by rw[h2];exact h1,hn1 m (by omega)⟩
   ·cases h1
 cases l with
 |nil=>exact EvG.const _
 |cons x l=>
  intro r h;obtain⟨r',h1,h⟩:=qB6.1 h;split at h
  ·rename_i h2;cases h;obtain⟨n1,hn1⟩:=hF _ _ _ h1;obtain⟨n2,hn2⟩:=key _ _ h2;refine⟨max n1 n2,λm hm=>?_⟩;have h3:F (cf m) x.1 x.2=some _:=hn1 m (by omega);simp only[zC,h3,qCe,hn2 m (by omega),if_true]
  ·cases h
theorem qo6(h:Ev cf c)(cfg:Cfg)(f:Nat)(rd:Option Nat)(k:Nat):∀(cd:Code) (fr:List AV) (H:AH),EvG cf c (λq=>evC cfg q f rd k cd fr H):=by
 intro cd
 induction cd with
 |skip=>intro fr H;simp only[evC];exact EvG.const _
 |label l=>intro fr H;simp only[evC];exact EvG.const _
 |exit id=>intro fr H;simp only[evC];exact EvG.const _
 |ret=>intro fr H;simp only[evC];exact EvG.const _
 |goto l=>intro fr H;simp only[evC];exact EvG.const _
 |refuse s=>intro fr H;simp only[evC];exact EvG.const _
 |region id ops draw=>
  intro fr H;simp only[evC];cases draw with
  |true=>simp only[if_true];exact EvG.ite ((qdq h cfg f id ops _ _ _ _ _).bind λq=>EvG.const _) (EvG.const _)
  |false=>simp only[qCg,if_false];exact(qe7 h cfg f id ops _ _ _ _).map _
 |seq x y ihx ihy=>
  intro fr H;simp only[evC];split
  ·exact(qi0 h cfg f _ _ _ _ _ _).bind λL=>qrX (λfr H=>(ihy _ _).map _) L
  refine(ihx _ _).bind λr=>?_
  cases r.1 with
  |normal=>exact ihy _ _
  |exit id=>exact EvG.const _
  |goto l=>exact EvG.const _
  |ret=>exact EvG.const _
 |cond cnd x y ihx ihy=>
  intro fr H;simp only[evC];split
  ·exact EvG.ite (ihx _ _) (ihy _ _)
  ·exact EvG.const _
 |block id x ih=>
  intro fr H;simp only[evC];exact(ih _ _).bind λr=>EvG.const _
 |loop x ih=>
  intro fr H;simp only[evC];exact(qzi ih _).map _
 |scope x ih=>
  intro fr H;simp only[evC];exact(ih _ _).bind λr=>EvG.const _
 |rangeFunc g ps assign body=>
  intro fr H;simp only[evC,zE];refine EvG.ite ?_ (EvG.const _);split
  ·exact EvG.ite (EvG.const _) ((h _ _ _).bind λr=>EvG.const _)
  ·exact EvG.const _
theorem qmO(h:Ev cf c)(cfg:Cfg)(t:Tgt)(args:List AV)(H:AH):EvG cf c (λq=>xn cfg q t args H):=by
 unfold xn;cases t with
 |f f=>
  simp only;split
  ·exact EvG.const _
  ·refine EvG.ite ?_ (EvG.const _);split
   ·split
    ·exact(qo6 h cfg f none _ _ _ _).bind λr=>EvG.const _
    ·exact EvG.const _
   ·exact EvG.const _
 |y id=>
  simp only;split
  ·refine EvG.ite ((qo6 h cfg _ _ _ _ _ _).bind λr=>?_) (EvG.const _);split
   ·exact(qo6 h cfg _ _ _ _ _ _).bind λq=>EvG.const _
   ·exact EvG.const _
  ·exact EvG.const _
end
theorem qiZ(cfg:Cfg):∀(n:Nat) (t:Tgt) (a:List AV) (H:AH) (r:AV×AH),evF cfg n t a H=some r->evF cfg (n+1) t a H=some r
 |0,t,a,H,r,h=>by cases h
 |n+1,t,a,H,r,h=>by
  have hev:Ev (λ_=>evF cfg (n+1)) (evF cfg n):=λt a H r h=>⟨0,λ_ _=>qiZ cfg n t a H r h⟩
  obtain⟨m,hm⟩:=qmO hev cfg t a H r h;exact hm m (qCa _)
theorem qBY(cfg:Cfg):Ev (evF cfg) (EV cfg):=by
 intro t a H r h;obtain⟨n,hn⟩:=qbu h;refine⟨n,λm hm=>?_⟩;obtain⟨d,rfl⟩:=Nat.exists_eq_add_of_le hm
 induction d with
 |zero=>exact hn
 |succ d ih=>exact qiZ cfg _ t a H r (ih (by omega))
theorem qhN{cfg:Cfg}{t:Tgt}{a:List AV}{H:AH}{r:AV×AH}(h:xn cfg (EV cfg) t a H=some r):EV cfg t a H=some r:=by
 obtain⟨n,hn⟩:=qmO (qBY cfg) cfg t a H r h;exact quv (g:=λn=>evF cfg n t a H) (λn r h=>qiZ cfg n t a H r h) (n:=n+1) (hn n (qCa _))
theorem qg5{k:Nat}{ts:Option (List Tmp)}{ls:List (Tmp×Nat)}{body:Den}{p:List AV×AH}{q:Ex×List AV×AH}(h:body p.1 p.2=some q)(hq:∀x,q≠(.normal,x)):LOOP k ts ls body p=some q:=by
 refine qen (n:=1) ?_;rw[x8,h];obtain⟨e,q⟩:=q;cases e with
 |normal=>exact absurd rfl (hq q)
 |exit id=>rfl
 |goto l=>rfl
 |ret=>rfl
theorem qvC{k:Nat}{ts:Option (List Tmp)}{ls:List (Tmp×Nat)}{body:Den}{p:List AV×AH}{fr1:List AV}{H1:AH}{r:Ex×List AV×AH}(h:body p.1 p.2=some (.normal,fr1,H1))(hr:LOOP k ts ls body (yf k ts ls fr1 H1)=some r):LOOP k ts ls body p=some r:=by
 obtain⟨n,hn⟩:=qbu hr;refine qen (n:=n+1) ?_;rw[x8,h];exact hn
variable {α : Type}
abbrev KV(α:Type):=AV->Option α
abbrev KH(α:Type):=AV->AH->Option α
abbrev KE(α:Type):=Ex->List AV->AH->Option α
abbrev KF(α:Type):=Tgt->List AV->AH->(AV×AH->Option α)->Option α
def kInt(kd:IntKind)(v:AV)(k:Int->Option α):Option α:=
 match v with
 | .int k' n=>cond (zR k' kd) (k n) none
 |_=>none
def qr(v:AV)(k:Bool->Option α):Option α:=
 match v with
 | .bool b=>k b
 |_=>none
def kStr(v:AV)(k:List UInt8->Option α):Option α:=
 match v with
 | .str s=>k s
 |_=>none
def kSl(v:AV)(k:List (List AV)->Option α):Option α:=
 match v with
 | .sl rows=>k rows
 |_=>none
def kAgg(v:AV)(k:List AV->Option α):Option α:=
 match v with
 | .agg cs=>k cs
 |_=>none
def kOpt{β:Type}(o:Option β)(k:β->Option α):Option α:=
 match o with
 |some b=>k b
 |none=>none
def qf(l:List AV)(k:AV->List AV->Option α):Option α:=
 match l with
 |c::cs=>k c cs
 |[]=>none
def kNil(l:List AV)(x:Option α):Option α:=
 match l with
 |[]=>x
 |_=>none
def qa4(s:FK)(v:AV)(k:KV α):Option α:=
 match s with
 | .int kd=>kInt kd v λn=>k (.int kd n)
 | .bool=>qr v λb=>k (.bool b)
 | .str=>kStr v λs=>k (.str s)
 | .sl=>kSl v λrows=>k (.sl rows)
 | .any=>k v
def qa5:List FK->List AV->(List AV->Option α)->Option α
 |[],l,k=>kNil l (k [])
 |s::ss,l,k=>qf l λc cs=>qa4 s c λv=>qa5 ss cs λvs=>k (v::vs)
def quA(sl:Bool):TD->FK
 | .int k=>.int k
 | .bool=>.bool
 | .str=>.str
 | .slice _=>if sl then .sl else .any
 |_=>.any
def qkd(cfg:Cfg)(p:TypeId->Bool):Nat->TypeId->Option (List FK)
 |0,_=>none
 |n+1,t=>
  match cfg.td t with
  |some (.struct fs)=>(fs.foldr (λf acc=>match qkd cfg p n f.2,acc with|some l,some a=>some (l++a)|_,_=>none) (some []))
  |some (.array m e)=>(match qkd cfg p n e with|some l=>some ((qCr m l).flatten)|none=>none)
  |some d=>some [quA (p t) d]
  |none=>none
def kTy1(p:TypeId->Bool)(cfg:Cfg)(t:TypeId)(v:AV)(k:KV α):Option α:=
 match cfg.td t with
 |some d=>
  match d with
  | .struct _=>(match qkd cfg p 6 t with|some ss=>kAgg v λcs=>qa5 ss cs λvs=>k (.agg vs)|none=>k v)
  | .array _ _=>(match qkd cfg p 6 t with|some ss=>kAgg v λcs=>qa5 ss cs λvs=>k (.agg vs)|none=>k v)
  |d=>qa4 (quA (p t) d) v k
 |none=>k v
def kTup(v:AV)(k:List AV->Option α):Option α:=
 match v with
 | .tup cs=>k cs
 |_=>none
def kTys(p:TypeId->Bool)(cfg:Cfg):List TypeId->List AV->(List AV->Option α)->Option α
 |[],l,k=>kNil l (k [])
 |t::ts,l,k=>qf l λc cs=>kTy1 p cfg t c λv=>kTys p cfg ts cs λvs=>k (v::vs)
def kTy(p:TypeId->Bool)(cfg:Cfg)(t:TypeId)(v:AV)(k:KV α):Option α:=
 match cfg.tup t with
 |some ts=>kTup v λcs=>kTys p cfg ts cs λvs=>k (.tup vs)
 |none=>kTy1 p cfg t v k
def AV.regA(i:Nat):AV->AV
 | .agg cs=>.agg (cs.map (AV.regn i))
 |a=>a
def noTy:TypeId->Bool:=λ_=>false
def qhH:TypeId->Bool:=λ_=>true
def qBL(cfg:Cfg)(H:AH)(a:AV):TypeId->Bool:=
 match a with
 | .cptr _ _=>cfg.dat
 | .ptr id _ _=>if xx H id then cfg.dat else noTy
 |_=>noTy
def kNew(nid:Option Nat)(H:AH)(b:ABlk)(k:Nat->AH->Option α):Option α:=
 match nid with
 |none=>k H.length (H++[b])
 |some i=>kOpt H[i]? λx=>match x with| .res=>k i (H.set i b)|_=>none
def qtf(cfg:Cfg)(t:TypeId):Bool:=match cfg.td t with|some d=>d.agg|none=>false
def qbw(agg:Bool)(v:AV)(k:List AV->Option α):Option α:=
 cond agg (kAgg v λcs=>cond (vY cs) (k cs) none) (cond v.isCell (k [v]) none)
def qst(t:Bool)(a b:AV)(k:KV α):Option α:=
 match a,b with
 | .bool p,.bool q=>k (.bool (cond t p q))
 | .int k1 p,.int k2 q=>cond (zR k1 k2) (k (.int k1 (cond t p q))) (cond t (k a) (k b))
 |a,b=>cond t (k a) (k b)
def qkp(place:Nat->Option (Nat×Nat×Bool))(cells:List AV):List (Nat×AV)->(List AV->Option α)->Option α
 |[],k=>k cells
 |(i,v)::rest,k=>
  match place i with
  |some (off,size,agg)=>qbw agg v λcs=>cond (qCh cs.length size&&qB4 (off+size) cells.length) (qkp place (cells.take off++cs++cells.drop (off+size)) rest k) none
  |none=>none
def qhz(cfg:Cfg):List (Nat×TypeId)->Option (List (Nat×Nat×Bool))
 |[]=>some []
 |(off,t)::l=>
  match cfg.sz t,qhz cfg l with
  |some n,some ps=>some ((off,n,qtf cfg t)::ps)
  |_,_=>none
def qnt(agg:Bool)(n:Nat)(rows:List (List AV)):List (Nat×AV)->(List (List AV)->Option α)->Option α
 |[],k=>k rows
 |(i,v)::rest,k=>qbw agg v λcs=>cond (qCh cs.length n&&Nat.blt i rows.length) (qnt agg n (rows.set i cs) rest k) none
def kBlk(H:AH)(id:Nat)(k:Nat->List (List AV)->Option α):Option α:=
 kOpt H[id]? λb=>match b with| .rows _ sz rs=>k sz rs| .froz _ sz rs=>k sz rs|_=>none
def qdn(H:AH)(id:Nat)(k:Bool->Nat->List (List AV)->Option α):Option α:=
 kOpt H[id]? λb=>match b with| .rows d sz rs=>k d sz rs|_=>none
def qbE(agg:Bool)(n:Nat)(cells:List AV)(off:Nat)(k:KV α):Option α:=
 cond agg (cond (qB4 (off+n) cells.length) (k (.agg ((cells.drop off).take n))) none) (kOpt cells[off]? k)
def qkk(agg:Bool)(n:Nat)(H:AH)(p:AV)(k:KV α):Option α:=
 match p with
 | .ptr id r off=>kBlk H id λ_ rs=>kOpt rs[r]? λrow=>qbE agg n row off k
 | .cptr cs off=>qbE agg n cs off k
 | .lpt cs off=>qbE agg n (cs.map AV.lend) off k
 | .rpt id cs off=>kOpt H[id]? λb=>match b with
  | .reg=>qbE agg n (cs.map (AV.regn id)) off k
  | .spl=>cond agg (cond (qCh n 4) (qa5 [.int .i64,.int .i64,.str,.sl] ((cs.drop off).take 4) λvs=>k (.alt [.agg (vs.map (AV.regn id)),.agg qhx,.agg row0])) none) (kOpt (qlq cs off) λrows=>k (.rsl id rows))
  |_=>none
 |_=>none
def qoB(agg:Bool)(n:Nat)(H:AH)(p v:AV)(k:AH->Option α):Option α:=
 match p with
 | .ptr id r off=>qbw agg v λcs=>qdn H id λd sz rs=>kOpt rs[r]? λrow=>cond (qCh cs.length n&&qB4 (off+n) row.length) (k (H.set id (.rows (d&&qw 0 cs) sz (rs.set r (row.take off++cs++row.drop (off+n)))))) none
 | .rpt id cs off=>kOpt H[id]? λb=>match b with| .spl=>cond (qCh n 4) (cond (qbn ((cs.drop off).take 4)&&is77 v) (k H) none) (cond (qCh n 7&&qku (cs.drop off)&&qcx v) (k H) none)|_=>none
 |_=>none
def qgG(v:AV)(k:KV α):Option α:=
 match v with
 | .ptr id r off=>k (.ptr id r off)
 | .cptr cs off=>k (.cptr cs off)
 | .fn (.func f) a b=>k (.fn (.func f) a b)
 | .mp id=>k (.mp id)
 | .yld id=>k (.yld id)
 |_=>none
def qd(a b:Int):Bool:=decide (a<=b)
def qe(a b:Int):Bool:=decide (a<b)
def qgK(lo hi:Nat)(x:Option AV)(dflt:Nat)(k:Nat->Option α):Option α:=
 match x with
 |none=>k dflt
 |some v=>match v with| .int _ i=>cond (qd lo i&&qd i hi) (k i.toNat) none|_=>none
def qbv(n:Nat)(lo hi mx:Option AV)(k:Nat->Nat->Option α):Option α:=
 cond (hi.isNone&&mx.isSome) none (qgK 0 n hi n λh=>qgK h n mx h λ_=>qgK 0 h lo 0 λl=>k l h)
def qoC(cfg:Cfg)(t:TypeId)(H:AH)(x:AV)(lo hi mx:Option AV)(k:KV α):Option α:=
 match cfg.td t with
 |some .str=>(match mx with|none=>(match x with| .str s=>qbv s.length lo hi none λl h=>k (.str ((s.drop l).take (h - l)))|_=>none)|_=>none)
 |some (.slice e)=>
  match cfg.sz e with
  |some n=>
   match x with
   | .nilS=>qbv 0 lo hi mx λ_ _=>k .nilS
   | .sl rows=>qbv rows.length lo hi mx λl h=>cond (xl n rows) (match cfg.ems t with|false=>k (.sl ((rows.drop l).take (h - l)))|true=>k (slE true rows l h)) none
   | .ms id off len=>qbv len lo hi mx λl h=>kBlk H id λsz _=>cond (qCh sz n) (k (.ms id (off+l) (h - l))) none
   | .wr _ v=>(match lo,hi,mx with
    |none,some hv,none=>(match hv with
     | .int _ h=>(match v with
      | .sl rows=>cond (qd 0 h&&qd h rows.length) (k (.wr h.toNat (.sl rows))) none
      | .ms id off len=>cond (qd 0 h&&qd h len) (k (.wr h.toNat (.ms id off len))) none
      |_=>none)
     |_=>none)
    |_,_,_=>none)
   |_=>none
  |none=>none
 |_=>none
def qeU(cfg:Cfg)(t:TypeId)(H:AH)(x i:AV)(k:KV α):Option α:=
 match i with
 | .int _ i=>
  match cfg.td t with
  |some (.slice e)=>
   match cfg.sz e with
   |some n=>
    match x with
    | .ms id off len=>kBlk H id λsz _=>cond (qCh sz n&&qd 0 i&&qe i len) (k (.ptr id (off+i.toNat) 0)) none
    | .sl rows=>cond (qd 0 i&&qe i rows.length) (kOpt rows[i.toNat]? λrow=>cond (qCh row.length n) (k (.cptr row 0)) none) none
    | .lsl rows=>cond (qd 0 i&&qe i rows.length) (kOpt rows[i.toNat]? λrow=>cond (qCh row.length n) (k (.lpt row 0)) none) none
    | .rsl id rows=>cond (qd 0 i&&qe i rows.length) (kOpt rows[i.toNat]? λrow=>cond (qCh row.length n) (k (.rpt id row 0)) none) none
    |_=>none
   |none=>none
  |some (.array n e)=>
   match cfg.sz e with
   |some sz=>
    match x with
    | .ptr id r off=>cond (qd 0 i&&qe i n) (k (.ptr id r (off+i.toNat*sz))) none
    | .cptr cs off=>cond (qd 0 i&&qe i n) (k (.cptr cs (off+i.toNat*sz))) none
    |_=>none
   |none=>none
  |_=>none
 |_=>none
def qoL(cfg:Cfg)(t:TypeId)(x i:AV)(k:KV α):Option α:=
 match i with
 | .int _ i=>
  match cfg.td t with
  |some (.array n e)=>
   match cfg.ty e with
   |some ti=>kAgg x λcs=>cond (qd 0 i&&qe i n) (qbE ti.d.agg ti.sz cs (i.toNat*ti.sz) k) none
   |none=>none
  |some .str=>kStr x λs=>cond (qd 0 i) (kOpt s[i.toNat]? λb=>k (.int .u8 b.toNat)) none
  |_=>none
 |_=>none
def qoM(cfg:Cfg)(t:TypeId)(x:AV)(f:Nat)(k:KV α):Option α:=
 match cfg.td t with
 |some (.struct fs)=>
  match fs[f]? with
  |some (off,ft)=>(match cfg.ty ft with|some ti=>kAgg x λcs=>qbE ti.d.agg ti.sz cs off k|none=>none)
  |none=>none
 |_=>none
def qeX(cfg:Cfg)(t:TypeId)(x:AV)(f:Nat)(k:KV α):Option α:=
 match cfg.td t with
 |some (.struct fs)=>
  match fs[f]? with
  |some (o,ft)=>
   match cfg.sz ft with
   |some (_+1)=>(match x with| .ptr id r off=>k (.ptr id r (off+o))| .cptr cs off=>k (.cptr cs (off+o))| .rpt id cs off=>k (.rpt id cs (off+o))|_=>none)
   |_=>none
  |none=>none
 |_=>none
def qiW(cfg:Cfg)(nid:Option Nat)(src dst:TypeId)(x:AV)(H:AH)(k:KH α):Option α:=
 match cfg.td src,cfg.td dst with
 |some (.int _),some (.int kd)=>(match x with| .int _ n=>k (.int kd (kd.wrap n)) H|_=>none)
 |some .str,some .str=>kStr x λs=>k (.str s) H
 |some .str,some (.slice e)=>
  match cfg.td e with
  |some (.int .u8)=>kStr x λs=>kNew nid H (.rows true 1 (zs s)) λi H'=>k (.ms i 0 s.length) H'
  |_=>none
 |some (.slice e),some .str=>
  match cfg.td e with
  |some (.int .u8)=>kOpt (yd H 1 x) λrows=>kOpt (xU rows) λbs=>k (.str bs) H
  |_=>none
 |_,_=>none
def qlE(H:AH)(n:Nat)(x:AV)(k:List (List AV)->Option α):Option α:=
 match x with
 | .nilS=>k []
 | .em=>k []
 | .sl rows=>cond (xl n rows) (k rows) none
 | .ms id off len=>kBlk H id λsz rs=>cond (qCh sz n&&qB4 (off+len) rs.length) (k ((rs.drop off).take len)) none
 |_=>none
def kSrc(isStr:Bool)(H:AH)(n:Nat)(x:AV)(k:List (List AV)->Option α):Option α:=
 cond isStr (kStr x λb=>cond (qCh n 1) (k (zs b)) none) (qlE H n x k)
def qq9(cfg:Cfg)(t:TypeId):Bool:=match cfg.td t with|some .str=>true|_=>false
def qlI(cfg:Cfg)(nid:Option Nat)(t xt:TypeId)(s x:AV)(H:AH)(k:KH α):Option α:=
 match cfg.td t,cfg.td xt with
 |some (.slice e),some xd=>
  match cfg.ty e with
  |some ei=>
   cond (xd.notInt&&Nat.blt 0 ei.sz&&qCh ei.zero.length ei.sz)
    (kSrc (qq9 cfg xt) H ei.sz x λnews=>
     match s with
     | .nilS=>cond news.isEmpty (k .nilS H) (cond (qW news.length ei.bytes) (kNew nid H (.rows (xD H x) ei.sz news) λi H'=>k (.ms i 0 news.length) H') none)
     | .ms id off len=>qdn H id λd sz rs=>cond (qCh sz ei.sz&&qB4 (off+len) rs.length&&qW (len+news.length) ei.bytes)
       (kNew nid (H.set id .dead) (.rows (d&&xD H x) sz ((rs.drop off).take len++news)) λi H'=>k (.ms i 0 (len+news.length)) H') none
     |_=>none) none
  |none=>none
 |_,_=>none
def kLen(cfg:Cfg)(t:TypeId)(x:AV)(H:AH)(k:KV α):Option α:=
 match cfg.td t with
 |some .str=>kStr x λs=>k (.int .i64 s.length)
 |some (.slice _)=>(match x with| .nilS=>k (.int .i64 0)| .em=>k (.int .i64 0)| .sl rows=>k (.int .i64 rows.length)| .ms _ _ len=>k (.int .i64 len)| .lsl rows=>k (.int .i64 rows.length)| .rsl _ rows=>k (.int .i64 rows.length)|_=>none)
 |some (.array n _)=>k (.int .i64 n)
 |some (.map _ _)=>(match x with| .nilM=>k (.int .i64 0)| .mp id=>(kOpt H[id]? λb=>match b with| .mp _ es=>k (.int .i64 es.length)|_=>none)|_=>none)
 |_=>none
def qnu(cfg:Cfg)(nid:Option Nat)(t:TypeId)(len cap:AV)(H:AH)(k:KH α):Option α:=
 match cfg.td t with
 |some (.slice e)=>
  match cfg.ty e with
  |some ei=>
   cond (za ei) (kInt .i64 len λn=>kInt .i64 cap λc=>
    cond (qd 0 n&&qd n c&&qd (c*ei.bytes) 140737488355328&&qd c 9223372036854775807) (kNew nid H (.rows true ei.sz (qCr n.toNat ei.zero)) λi H'=>k (.ms i 0 n.toNat) H') none) none
  |none=>none
 |_=>none
def qoI(cfg:Cfg)(nid:Option Nat)(t:TypeId)(len cap:AV)(H:AH)(k:KH α):Option α:=
 match cfg.wrt t with
 |false=>qnu cfg nid t len cap H k
 |true=>
  match len,cap with
  | .int _ n,.int _ c=>cond (decide (n=c)) (qnu cfg nid t len cap H λv H'=>match v with| .ms id off l=>k (.wr l (.ms id off l)) H'|_=>none) none
  |_,_=>none
def kCap(cfg:Cfg)(t:TypeId)(x:AV)(k:KV α):Option α:=
 match cfg.td t with
 |some (.slice _)=>(match x with| .wr _ v=>(match v with| .sl rows=>k (.int .i64 rows.length)| .ms _ _ len=>k (.int .i64 len)|_=>none)|_=>none)
 |_=>none
def qoN(cfg:Cfg)(t:TypeId)(x:AV)(H:AH)(k:AH->Option α):Option α:=
 match cfg.td t with
 |some (.slice e)=>
  match x with
  | .nilS=>k H
  | .ms id off len=>
   match cfg.ty e with
   |some ei=>qdn H id λd sz rs=>cond (za ei&&qCh sz ei.sz&&qB4 (off+len) rs.length) (k (H.set id (.rows d sz (rs.take off++qCr len ei.zero++rs.drop (off+len))))) none
   |none=>none
  |_=>none
 |_=>none
def qsw(cfg:Cfg)(t xt:TypeId)(d s:AV)(H:AH)(k:KH α):Option α:=
 match cfg.td t with
 |some (.slice e)=>
  match d with
  | .ms id off len=>
   match cfg.sz e with
   |some n=>qdn H id λd sz rs=>kSrc (qq9 cfg xt) H n s λnews=>cond (qCh sz n&&qB4 (off+len) rs.length&&Nat.blt 0 sz)
     (k (.int .i64 (Nat.min news.length len)) (H.set id (.rows (d&&xD H s) sz (rs.take off++news.take len++rs.drop (off+(news.take len).length))))) none
   |none=>none
  |_=>none
 |_=>none
def kMpB(b:ABlk)(k:Bool->List (AV×AV)->Option α):Option α:=
 match b with
 | .mp d es=>k d es
 |_=>none
def qoH(H:AH)(x:AV)(k:Bool->List (AV×AV)->Option α):Option α:=
 match x with
 | .nilM=>k true []
 | .mp id=>kOpt H[id]? λb=>kMpB b k
 |_=>none
def qeb(r:Option (Nat×AV))(x:Option α)(y:Nat->AV->Option α):Option α:=
 match r with
 |none=>x
 |some p=>y p.1 p.2
def qzY(cfg:Cfg):Bool->TypeId->Bool
 |true=>cfg.dat
 |false=>noTy
def qlH(cfg:Cfg)(t:TypeId)(x key:AV)(ok:Bool)(H:AH)(k:KV α):Option α:=
 match cfg.td t with
 |some (.map kt et)=>
  match cfg.td kt with
  |some d=>qoH H x λdf es=>cond d.keyed (kOpt (qbt d key es 0) λr=>qeb r
    (kOpt (cfg.zeroV et) λz=>k (cond ok (.tup [z,.bool false]) z))
    λ_ v=>kTy1 (qzY cfg df) cfg et v λv=>k (cond ok (.tup [v,.bool true]) v)) none
  |none=>none
 |_=>none
def qlG(cfg:Cfg)(t:TypeId)(m key v:AV)(H:AH)(k:AH->Option α):Option α:=
 match cfg.td t with
 |some (.map kt _)=>
  match m with
  | .mp id=>
   match cfg.td kt with
   |some d=>kOpt H[id]? λb=>kMpB b λd0 es=>cond d.keyed (kOpt (qbt d key es 0) λr=>qeb r
     (k (H.set id (.mp (d0&&(key.refsLt 0&&v.refsLt 0)) (es++[(key,v)]))))
     λi _=>k (H.set id (.mp (d0&&(key.refsLt 0&&v.refsLt 0)) (es.set i (key,v))))) none
   |none=>none
  |_=>none
 |_=>none
def qoJ(cfg:Cfg)(nid:Option Nat)(t:TypeId)(r:Option AV)(H:AH)(k:KH α):Option α:=
 match cfg.td t with
 |some (.map _ _)=>
  match r with
  |none=>kNew nid H (.mp true []) λi H'=>k (.mp i) H'
  |some h=>(match h with| .int _ _=>kNew nid H (.mp true []) λi H'=>k (.mp i) H'|_=>none)
 |_=>none
def kOp(cfg:Cfg)(nid:Option Nat)(o:Op)(ty:TypeId)(x:Operand->AV)(H:AH)(k:KH α):Option α:=
 match o with
 | .move a| .assign a=>k (x a) H
 | .pick c a b=>qr (x c) λt=>qst t (x a) (x b) λv=>k v H
 | .alloc t=>
  match cfg.ty t with
  |some ti=>cond (vY ti.zero) (kNew nid H (qaG cfg t ti.zero) λi H'=>k (.ptr i 0 0) H') none
  |none=>none
 | .box t a=>qbw (qtf cfg t) (x a) λcs=>kNew nid H (qda cfg t cs) λi H'=>k (.ptr i 0 0) H'
 | .build t parts=>
  match cfg.ty t with
  |some ti=>
   cond (vY ti.zero)
    (match ti.d with
    | .struct fs=>
     match qhz cfg fs with
     |some ps=>qkp (λi=>ps[i]?) ti.zero (parts.toList.map λp=>(p.1,x p.2)) λcs=>k (.agg (cfg.fga t cs)) H
     |none=>none
    | .array _ e=>
     match cfg.sz e with
     |some n=>qkp (λi=>some (i*n,n,qtf cfg e)) ti.zero (parts.toList.map λp=>(p.1,x p.2)) λcs=>k (.agg cs) H
     |none=>none
    |_=>none) none
  |none=>none
 | .buildSlice t len parts=>
  match cfg.td t with
  |some (.slice e)=>
   match cfg.ty e with
   |some ei=>
    cond (za ei&&qB4 (len*ei.sz) 16777216)
     (qnt ei.d.agg ei.sz (qCr len ei.zero) (parts.toList.map λp=>(p.1,x p.2)) λrows=>kNew nid H (.rows (qI 0 rows) ei.sz rows) λi H'=>k (.ms i 0 len) H') none
   |none=>none
  |_=>none
 | .load t a=>
  match cfg.ty t with
  |some ti=>match x a with
   | .lpt cs off=>qbE ti.d.agg ti.sz cs off λv=>kTy cfg.dat cfg t v λv=>cond ti.d.agg (k v.lendA H) (k v.lend H)
   | .rpt id cs off=>kOpt H[id]? λb=>match b with
    | .reg=>qbE ti.d.agg ti.sz cs off λv=>kTy cfg.dat cfg t v λv=>cond ti.d.agg (k (v.regA id) H) (k (v.regn id) H)
    |_=>qkk ti.d.agg ti.sz H (.rpt id cs off) λv=>k v H
   |p=>qkk ti.d.agg ti.sz H p λv=>kTy (qBL cfg H p) cfg t v λv=>k v H
  |none=>none
 | .store t a v=>
  match cfg.ty t with
  |some ti=>qoB ti.d.agg ti.sz H (x a) (x v) λH'=>k .junk H'
  |none=>none
 | .nilCheck a=>qgG (x a) λv=>k v H
 | .binOp op t a b _=>kOpt (aBin cfg (litN a b) op t (x a) (x b)) λv=>kTy noTy cfg ty v λv=>k v H
 | .unOp op _ a=>kOpt (aUn op (x a)) λv=>kTy noTy cfg ty v λv=>k v H
 | .convert s d a=>qiW cfg nid s d (x a) H k
 | .makeFunc f first caps=>k (.fn f (first.toList.map x) (caps.toList.map x)) H
 | .makeSlice t l c=>qoI cfg nid t (x l) (x c) H k
 | .makeMap t r=>qoJ cfg nid t (r.map x) H k
 | .lookup t a key ok=>qlH cfg t (x a) (x key) ok H λv=>k v H
 | .mapUpdate t m key v| .insert t m key v=>qlG cfg t (x m) (x key) (x v) H λH'=>k .junk H'
 | .slice t a lo hi mx=>qoC cfg t H (x a) (lo.map x) (hi.map x) (mx.map x) λv=>k v H
 | .fieldAddr t a f=>qeX cfg t (x a) f λv=>k v H
 | .field t a f=>qoM cfg t (x a) f λv=>kTy noTy cfg ty v λv=>k v H
 | .indexAddr t a i=>qeU cfg t H (x a).unwr (x i) λv=>k v H
 | .index t a i=>qoL cfg t (x a) (x i) λv=>kTy noTy cfg ty v λv=>k v H
 | .extract t i=>(match x t with| .tup vs=>kOpt vs[i]? λv=>kTy noTy cfg ty v λv=>k v H|_=>none)
 | .call c=>
  match c.callee with
  | .builtin b=>
   match b,c.args.toList,c.argTypes.toList with
   | .len,[a],[t]=>kLen cfg t (x a).unwr H λv=>k v H
   | .cap,[a],[t]=>kCap cfg t (x a) λv=>k v H
   | .append,[s,a],[t,xt]=>qlI cfg nid t xt (x s) (x a) H k
   | .copy,[d,s],[t,xt]=>qsw cfg t xt (x d).unwr (x s) H k
   | .clear,[a],[t]=>qoN cfg t (x a) H λH'=>k (.tup []) H'
   | .min,[a,b],_=>kOpt (aMin (λb a=>decide (b<a)) [x a,x b]) λv=>kTy noTy cfg ty v λv=>k v H
   | .max,[a,b],_=>kOpt (aMin (λb a=>decide (a<b)) [x a,x b]) λv=>kTy noTy cfg ty v λv=>k v H
   |_,_,_=>none
  |_=>none
 |_=>none
def qkn(g s:Bool)(H:AH)(v:AV)(k:KV α):Option α:=
 match v with
 | .ms id off len=>kBlk H id λ_ rs=>cond (qB4 (off+len) rs.length&&(xx H id||qI 0 ((rs.drop off).take len))) (k (.sl ((rs.drop off).take len))) none
 | .nilS=>k (cond g (.sl []) .nilS)
 | .em=>k (cond g (.sl []) .em)
 | .wr n v=>(match v with| .sl rows=>k (cond g (.sl (rows.take n)) (.wr n (.sl rows)))|_=>none)
 | .ptr id r off=>cond s (kBlk H id λ_ rs=>kOpt rs[r]? λrow=>cond (qw 0 row) (k (.cptr row off)) none) (k (.ptr id r off))
 | .rsl id rows=>cond s (kOpt H[id]? λb=>match b with| .reg=>k (.sl rows)|_=>none) (k (.rsl id rows))
 |a=>k a
def qaw(g s:Bool)(H:AH):List AV->(List AV->Option α)->Option α
 |[],k=>k []
 |a::l,k=>qkn g s H a λa=>qaw g s H l λl=>k (a::l)
def qbF(s:Bool)(H:AH)(v:AV)(k:KV α):Option α:=
 match v with
 | .agg cs=>qaw true s H cs λcs=>k (.agg cs)
 | .tup cs=>cond s (k ((AV.tup cs).fg)) (qaw true s H cs λcs=>k (.tup cs))
 | .fn f a b=>cond s (qaw false s H a λa=>qaw false s H b λb=>k (.fn f a b)) (k (.fn f a b))
 |a=>qkn true s H a k
def qhD(H:AH)(v:AV)(k:KV α):Option α:=
 match v with
 | .agg cs=>qaw false false H cs λcs=>k (.agg cs)
 | .tup cs=>qaw false false H cs λcs=>k (.tup cs)
 |a=>qkn false false H a k
def qgJ(H:AH):List AV->(List AV->Option α)->Option α
 |[],k=>k []
 |a::l,k=>qhD H a λa=>qgJ H l λl=>k (a::l)
def qnx(H:AH):List AV->(List AV->Option α)->Option α
 |[],k=>k []
 |a::l,k=>qbF true H a λa=>qnx H l λl=>k (a::l)
inductive OV where
 |nil
 |own (sz:Nat) (rs:List (List AV)) (off len:Nat)
def ovOf(r:AV×AH):Option OV:=
 match r.1 with
 | .nilS=>some .nil
 | .ms id off len=>
  match r.2[id]? with
  |some (.rows d sz rs)=>if d||qI 0 rs then some (.own sz rs off len)else none
  |_=>none
 |_=>none
def qno(r:AV×AH):Option (OV×AV):=
 match r.1 with
 | .tup [a,s]=>cond ((s.frz s.msIds r.2).fg.refsLt 0) (match ovOf (a,qQ s.msIds r.2)with|some o=>some (o,(s.frz s.msIds r.2).fg)|none=>none) none
 |_=>none
def EVd(cf:Orac)(f:Nat)(args:List AV)(sz:Nat)(rs:List (List AV)):Option (AV×List (List AV)):=(cf (.f f) args [.rows true sz rs]).bind (qkz sz)
def EVx(cf:Orac)(f:Nat)(args:List AV)(sz:Nat)(rs:List (List AV)):Option (AV×List (List AV)):=(cf (.f f) args [.rows false sz rs]).bind (qjL sz)
open Classical in
def EVk (cf:Orac) (f:Nat) (args:List AV) (sz:Nat) (rs:List (List AV)):Option AV:=(EVx cf f args sz rs).bind λq=>if q.2=rs then some q.1 else none
theorem qvF{cf:Orac}{f:Nat}{args:List AV}{sz:Nat}{rs:List (List AV)}{v:AV}(h:EVx cf f args sz rs=some (v,rs)):EVk cf f args sz rs=some v:=by
 unfold EVk;rw[h];exact qCM rfl
theorem qxl{cf:Orac}{f:Nat}{args:List AV}{sz:Nat}{rs:List (List AV)}{v:AV}(h:EVk cf f args sz rs=some v):EVx cf f args sz rs=some (v,rs):=by
 unfold EVk at h;obtain⟨q,h1,h2⟩:=qB6.1 h;split at h2
 ·rename_i e;rw[h1,←Option.some.inj h2,←e]
 ·cases h2
def EVs(cf:Orac)(f:Nat)(args:List AV):Option AV:=(cf (.f f) args []).map λr=>r.1
def EVf(cf:Orac)(f:Nat)(args:List AV):Option AV:=(cf (.f f) args []).map λr=>(r.1.frz r.1.msIds r.2).fg
def EVo(cf:Orac)(f:Nat)(args:List AV):Option OV:=(cf (.f f) args []).bind ovOf
def qz2(l:AH)(k:ABlk->AH->Option α):Option α:=
 match l with
 |b::bs=>k b bs
 |[]=>none
def qBS(l:AH)(x:Option α):Option α:=
 match l with
 |[]=>x
 |_=>none
def qz1(l:List (List AV))(k:List AV->List (List AV)->Option α):Option α:=
 match l with
 |b::bs=>k b bs
 |[]=>none
def qBR(l:List (List AV))(x:Option α):Option α:=
 match l with
 |[]=>x
 |_=>none
def qzZ(b:ABlk)(k:Bool->Nat->List (List AV)->Option α):Option α:=
 match b with
 | .rows d n rs=>k d n rs
 |_=>none
def kMsE(v:AV)(k:Nat->Nat->Nat->Option α):Option α:=
 match v with
 | .ms a b c=>k a b c
 |_=>none
def kMpE(v:AV)(k:Nat->Option α):Option α:=
 match v with
 | .mp a=>k a
 |_=>none
def qBQ(v:AV)(k:Nat->Nat->Nat->Option α):Option α:=
 match v with
 | .ptr a b c=>k a b c
 |_=>none
def beqB(a b:Bool):Bool:=cond a b (!b)
def EVq(cf:Orac)(f:Nat)(args:List AV):Option (OV×AV):=(cf (.f f) args []).bind qno
def kOwn(o:OV)(x:Option α)(k:Nat->List (List AV)->Nat->Nat->Option α):Option α:=
 match o with
 | .nil=>x
 | .own sz rs off len=>k sz rs off len
inductive MV where
 |unit
 |nil
 |sl (off len:Nat)
 |int (k:IntKind) (n:Int)
 |bool (b:Bool)
def mvOf:AV->Option MV
 | .tup []=>some .unit
 | .nilS=>some .nil
 | .ms id off len=>if qCh id 0 then some (.sl off len)else none
 | .int k n=>some (.int k n)
 | .bool b=>some (.bool b)
 |_=>none
def MV.av(id:Nat):MV->AV
 | .unit=>.tup []
 | .nil=>.nilS
 | .sl off len=>.ms id off len
 | .int k n=>.int k n
 | .bool b=>.bool b
def EVm(cf:Orac)(f:Nat)(args:List AV)(sz:Nat)(rs:List (List AV)):Option (MV×List (List AV)):=
 (cf (.f f) args [.rows true sz rs]).bind λr=>(qj4 sz r).bind λq=>(mvOf q.1).map λv=>(v,q.2)
def EVu(cf:Orac)(f:Nat)(args:List AV):Option MV:=(cf (.f f) args []).bind λr=>if r.1.refsLt 0 then mvOf r.1 else none
def kMSl(v:MV)(x:Option α)(k:Nat->Nat->Option α):Option α:=
 match v with
 | .nil=>x
 | .sl off len=>k off len
 |_=>none
def qx(v:MV)(x:Option α):Option α:=
 match v with
 | .unit=>x
 |_=>none
def qa1(kd:IntKind)(v:MV)(k:Int->Option α):Option α:=
 match v with
 | .int q n=>cond (zR q kd) (k n) none
 |_=>none
def xA(v:MV)(k:Bool->Option α):Option α:=
 match v with
 | .bool b=>k b
 |_=>none
def quj(cfg:Cfg)(ty:TypeId):Nat:=
 match cfg.td ty with
 |some (.slice _)=>1
 |some (.int _)=>2
 |some .bool=>3
 |_=>0
def qxD(cfg:Cfg)(ty:TypeId):IntKind:=
 match cfg.td ty with
 |some (.int k)=>k
 |_=>.i64
def qnv(kd:Nat)(ik:IntKind)(id:Nat)(v:MV)(k:KV α):Option α:=
 match kd with
 |0=>qx v (k (.tup []))
 |1=>kMSl v (k .nilS) λoff len=>k (.ms id off len)
 |2=>qa1 ik v λn=>k (.int ik n)
 |_=>xA v λb=>k (.bool b)
def qa6(cfg:Cfg)(cf:Orac)(kf:KF α)(nid:Option Nat)(ty:TypeId)(t:Tgt)(args:List AV)(H:AH)(k:KH α):Option α:=
 match t with
 | .y id=>kf (.y id) args H λr=>kOpt (xB nid H.length r.1 r.2) λr=>kTy noTy cfg ty r.1 λv=>k v r.2
 | .f f=>
  match cfg.mode f with
  | .scal=>qnx H args λal=>cond (qw 0 al) (match cfg.inl f with
   |some _=>kf (.f f) al [] λr=>kTy noTy cfg ty r.1 λv=>cond v.scalar (k v H) none
   |none=>kOpt (EVs cf f al) λv=>kTy noTy cfg ty v λv=>cond v.scalar (k v H) none) none
  | .pfrz=>cond (qw 0 (args.map AV.fg)) (match cfg.inl f with
   |some _=>kf (.f f) (args.map AV.fg) [] λr=>qbF false r.2 r.1 λv=>kTy qhH cfg ty v λv=>cond (v.refsLt 0) (k v H) none
   |none=>kOpt (EVf cf f (args.map AV.fg)) λv=>kTy qhH cfg ty v λv=>cond (v.refsLt 0) (k v H) none) none
  | .pown=>match cfg.tup ty with
   |some [_,t2]=>cond (qw 0 args) (kOpt (EVq cf f args) λq=>kTy1 qhH cfg t2 q.2 λs=>kOwn q.1 (k (.tup [.nilS,s]) H) λsz rs off len=>kNew nid H (.rows true sz rs) λi H'=>k (.tup [.ms i off len,s]) H') none
   |_=>cond (qw 0 args) (match cfg.inl f with
   |some _=>kf (.f f) args [] λr=>kOpt (ovOf r) λo=>kOwn o (k .nilS H) λsz rs off len=>kNew nid H (.rows true sz rs) λi H'=>k (.ms i off len) H'
   |none=>kOpt (EVo cf f args) λo=>kOwn o (k .nilS H) λsz rs off len=>kNew nid H (.rows true sz rs) λi H'=>k (.ms i off len) H') none
  | .inpl=>
   match vg 0 args with
   |id::l=>cond (yy [id] l) (kOpt H[id]? λb=>match b with
     | .rows d sz rs=>cond (d||qI 0 rs) (kOpt (EVm cf f (renL (λ_=>0) args) sz rs) λq=>qnv (quj cfg ty) (qxD cfg ty) id q.1 λv=>k v (H.set id (.rows true sz q.2))) none
     |_=>none) none
   |[]=>cond (qw 0 args) (kOpt (EVu cf f args) λv=>qnv (quj cfg ty) (qxD cfg ty) 0 v λv=>k v H) none
  | .imp=>kf (.f f) args H λr=>kOpt (xB nid H.length r.1 r.2) λr=>kTy noTy cfg ty r.1 λv=>k v r.2
  | .ifrz=>kf (.f f) args H λr=>qhD r.2 r.1 λx=>kOpt (xB nid H.length x (qQ r.1.msIds r.2)) λr=>kTy noTy cfg ty r.1 λv=>k v r.2
  | .inpf=>
   match vg 0 args with
   |id::l=>cond (yy [id] l) (kOpt H[id]? λb=>match b with
     | .rows d sz rs=>cond (d||qI 0 rs) (kOpt (EVd cf f (renL (λ_=>0) args) sz rs) λq=>kTy qhH cfg ty q.1 λv=>k v (H.set id (.rows true sz q.2))) none
     |_=>none) none
   |[]=>none
  | .slf=>
   match vg 0 args with
   |id::l=>cond (yy [id] l) (kOpt H[id]? λb=>match b with
     | .rows _ sz rs=>cond (yy [id] (yu 0 rs)) (kOpt (EVk cf f (renL (λ_=>0) args) sz (renR (λ_=>0) rs)) λq=>kTy qhH cfg ty q λv=>k v (H.set id (.rows false sz (renR (λ_=>id) (renR (λ_=>0) rs))))) none
     |_=>none) none
   |[]=>none
open Classical in
def kEqR {β:Type} (a b:β) (x:Option α):Option α:=if a=b then x else none
def qBT(n:Nat)(x y:Option α):Option α:=match n with|0=>x|_+1=>y
def qks(cfg:Cfg)(cf:Orac)(kf:KF α)(nid:Option Nat)(ty:TypeId)(t:Tgt)(args:List AV)(H:AH)(k:KH α):Option α:=
 match zw cfg t args with
 |some n=>qBT n (qa6 cfg cf kf nid ty t [.nilS] H λv H1=>qa6 cfg cf kf nid ty t [.em] H λv2 H2=>kEqR (v,H1) (v2,H2) (k v H1)) (qa6 cfg cf kf nid ty t args H k)
 |none=>qa6 cfg cf kf nid ty t args H k
def kTgt(f:AV)(args:List AV)(k:Tgt->List AV->Option α):Option α:=
 match f with
 | .fn (.func g) first caps=>k (.f g) (first++args++caps)
 | .yld id=>k (.y id) args
 |_=>none
def opEq:Operand->Operand->Bool
 | .tmp a,.tmp b=>qCh a b
 |_,_=>false
def frzX:List Operand->List AV->(Operand->AV)->Operand->AV
 |b::l,v::al,x,a=>cond (opEq b a) v (frzX l al x a)
 |_,_,x,a=>x a
def qnw(cfg:Cfg)(nid:Option Nat)(o:Oper)(x:Operand->AV)(H:AH)(k:KH α):Option α:=
 qgJ H (o.op.operands.toList.map x) λal=>
  kOp cfg nid o.op o.type (frzX o.op.operands.toList al λa=>(x a).frz (o.op.operands.toList.flatMap λa=>(x a).msIds) H) (qQ (o.op.operands.toList.flatMap λa=>(x a).msIds) H) k
def qki(cfg:Cfg)(cf:Orac)(kf:KF α)(frz:Bool)(nid:Option Nat)(o:Oper)(x:Operand->AV)(H:AH)(k:KH α):Option α:=
 cond frz
  (match o.op with
   | .call c=>
    match c.callee with
    | .value f=>qgJ H (c.args.toList.map x) λal=>kTgt ((x f).frz (o.op.operands.toList.flatMap λa=>(x a).msIds) H) al λt al=>
      qks cfg cf kf nid o.type t al (qQ (o.op.operands.toList.flatMap λa=>(x a).msIds) H) k
    |_=>qnw cfg nid o x H k
   |_=>qnw cfg nid o x H k)
  (match o.op with
   | .call c=>
    match c.callee with
    | .value f=>kTgt (x f) (c.args.toList.map x) λt al=>qks cfg cf kf nid o.type t al H k
    |_=>kOp cfg nid o.op o.type x H k
   |_=>kOp cfg nid o.op o.type x H k)
def qea(ops:Array Oper)(fr:List AV)(o:Oper)(k:Bool->List AV->Option α):Option α:=
 match o.guard with
 |none=>k true fr
 |some (j,want)=>
  match(ops[j]?).bind (·.dst)with
  |some d=>kOpt fr[d]? λv=>match v with
   | .tup l=>(match l with|[]=>k false fr|_=>none)
   |v=>qr v λb=>cond b (k want (fr.set d (.bool true))) (k (!want) (fr.set d (.bool false)))
  |none=>none
def kOps(cfg:Cfg)(cf:Orac)(kf:KF α)(f rid:Nat)(ops:Array Oper):Nat->List Oper->List AV->AH->(List AV->AH->Option α)->Option α
 |_,[],fr,H,k=>k fr H
 |n,o::rest,fr,H,k=>qea ops fr o λb fr=>
   cond b (qki cfg cf kf (cfg.frz f rid n) none o (opd fr) H λv H'=>kOps cfg cf kf f rid ops (n+1) rest (put fr o.dst v) H' k) (kOps cfg cf kf f rid ops (n+1) rest (put fr o.dst (.tup [])) H k)
def qkr(cfg:Cfg)(cf:Orac)(kf:KF α)(f rid:Nat)(ops:Array Oper):Nat->Nat->List Oper->List AV->AH->(List DR->List AV->AH->Option α)->Option α
 |_,_,[],fr,H,k=>k [] fr H
 |n,at_,o::rest,fr,H,k=>qea ops fr o λb fr=>
   cond b
    (qki cfg cf kf (cfg.frz f rid n) (some at_) o (opd fr) H λv H'=>
     qkr cfg cf kf f rid ops (n+1) (at_+qbW cfg o) rest (put fr o.dst v) H' λfps fr' H''=>k (drOf cfg (cfg.frz f rid n) at_ o (opd fr) H v H'::fps) fr' H'')
    (qkr cfg cf kf f rid ops (n+1) (at_+qbW cfg o) rest (put fr o.dst (.tup [])) H λfps fr' H''=>k (drNo H::fps) fr' H'')
open Classical in
def CUT {β:Type} (p:β):Option β:=if ∃q:β,some q=some p then some p else none
theorem qA8{β:Type}(p:β):CUT p=some p:=qCM ⟨p,rfl⟩
def qL(ts:Option (List Tmp))(fr:List AV)(H:AH)(g:List AV->AH->Option α):Option α:=
 match ts with
 |none=>g fr H
 |some ks=>kOpt (CUT (vB (some ks) fr,H)) λp=>g p.1 p.2
theorem qqs{ts:Option (List Tmp)}{fr:List AV}{H:AH}{g:List AV->AH->Option α}{r:α}(h:qL ts fr H g=some r):g (vB ts fr) H=some r:=by
 cases ts with
 |none=>exact h
 |some ks=>
  have h:kOpt (CUT (vB (some ks) fr,H)) (λp=>g p.1 p.2)=some r:=h;rw[qA8]at h;exact h
def kSeq(nx:List AV->AH->Option α)(k:KE α):KE α:=λe fr H=>
 match e with
 | .normal=>nx fr H
 |e=>k e fr H
def qO(id:Nat)(k:KE α):KE α:=λe fr H=>
 match e with
 | .exit id'=>cond (qCh id' id) (k .normal fr H) (k (.exit id') fr H)
 |e=>k e fr H
def qa0(k:KE α):KE α:=λe fr H=>
 match e with
 | .goto _=>none
 |e=>k e fr H
def kAft(ts:Option (List Tmp))(k:KE α)(r:Ex×List AV×AH):Option α:=k r.1 (vB ts r.2.1) r.2.2
def known(fr:List AV)(c:Operand)(b:Bool):List AV:=
 match c with
 | .tmp d=>fr.set d (.bool b)
 |_=>fr
def qxF(b:ABlk)(k:Option Code->Option α):Option α:=
 match b with
 | .loop _ _ _ _ _ pend st=>(match st with| .busy=>none|_=>k pend)
 |_=>none
def qoE(pend:Option Code)(k:KE α)(fr:List AV)(H:AH):Option α:=
 match pend with
 |none=>k .normal fr H
 |some c=>(match c with| .ret=>k .ret fr H| .exit id=>k (.exit id) fr H|_=>none)
def xG(bs n:Nat)(fr:List AV)(k:KE α)(H:AH):Option α:=
 kOpt H[n]? λb=>qxF b λpend=>qoE pend k (gc bs fr (H.set n .dead)).1 (gc bs fr (H.set n .dead)).2
def quC(cfg:Cfg)(_cf:Orac)(kf:KF α)(f:Nat)(rd:Option Nat)(bs:Nat)(g:AV)(ps:List Tmp)(assign body:Code)(fr:List AV)(H:AH)(k:KE α):Option α:=
 cond (qol rd H)
  (match g with
   | .fn (.func h) first caps=>cond (cfg.ext h).isNone
     (kf (.f h) (first++[.yld H.length]++caps) (H++[.loop f (vB (cfg.keepIn f (qh body)) fr) ps assign body none .ready]) λr=>
      xG bs H.length (vB (cfg.keepOut f (qh body)) fr) k r.2) none
   |_=>none) none
def kOrd(cfg:Cfg)(cf:Orac)(kf:KF α)(f rid:Nat)(ops:Array Oper):List (Nat×Oper)->List AV->AH->(List AV->AH->Option α)->Option α
 |[],fr,H,k=>k fr H
 |p::rest,fr,H,k=>qea ops fr p.2 λb fr=>
   cond b (qki cfg cf kf (cfg.frz f rid p.1) none p.2 (opd fr) H λv H'=>kOrd cfg cf kf f rid ops rest (put fr p.2.dst v) H' k) (kOrd cfg cf kf f rid ops rest (put fr p.2.dst (.tup [])) H k)
def qsr{β:Type}(F:β->KE α->Option α)(g:Ex->List AV->AH->Ex×List AV×AH)(r:Ex×List AV×AH):List β->Option α->Option α
 |[],x=>x
 |q::l,x=>F q λe fr H=>kEqR r (g e fr H) (qsr F g r l x)
def qxH{β:Type}(F:β->KE α->Option α)(g:Ex->List AV->AH->Ex×List AV×AH)(k:KE α):List β->Option α
 |[]=>none
 |q::l=>F q λe fr H=>qsr F g (g e fr H) l (k (g e fr H).1 (g e fr H).2.1 (g e fr H).2.2)
def qG(cfg:Cfg)(cf:Orac)(kf:KF α)(f:Nat)(rd:Option Nat)(bs:Nat):Code->List AV->AH->KE α->Option α
 | .skip,fr,H,k=>k .normal fr H
 | .label _,fr,H,k=>k .normal fr H
 | .region id ops draw,fr,H,k=>
  cond draw
   (cond (zU ops)
    (qkr cfg cf kf f id ops 0 H.length ops.toList fr (H++qCr (places cfg ops.toList) .res) λfps fr' H'=>cond (qcz (ancs [] ops.toList) (H++qCr (places cfg ops.toList) .res) fps) (k .normal fr' H') none) none)
   (kOps cfg cf kf f id ops 0 ops.toList fr H λfr' H'=>k .normal fr' H')
 | .seq a b,fr,H,k=>
  match qb2 a with
  |some p=>
   match qhA p.2 p.2.size []with
   |some O=>qxH (λo k=>kOrd cfg cf kf f p.1 p.2 o fr H λfr H=>qG cfg cf kf f rd bs b (vB (cfg.cut f (qh b)) fr) H k) (λe fr H=>qhG bs (dsts a++dsts b) (e,fr,H)) k O
   |none=>none
  |none=>qG cfg cf kf f rd bs a fr H (kSeq (λfr H=>qL (cfg.cut f (qh b)) fr H λfr H=>qG cfg cf kf f rd bs b fr H k) k)
 | .cond c a b,fr,H,k=>qr (opd fr c) λt=>cond t (qG cfg cf kf f rd bs a (known fr c true) H k) (qG cfg cf kf f rd bs b (known fr c false) H k)
 | .block id a,fr,H,k=>qG cfg cf kf f rd bs a fr H (qO id k)
 | .loop a,fr,H,k=>kOpt (LOOP bs (cfg.keepIn f (qh a)) (cfg.lift f (qh a)) (evC cfg cf f rd bs a) (yf bs (cfg.keepIn f (qh a)) (cfg.lift f (qh a)) fr H)) (kAft (cfg.keepOut f (qh a)) k)
 | .scope a,fr,H,k=>qG cfg cf kf f rd bs a fr H (qa0 k)
 | .exit id,fr,H,k=>k (.exit id) fr H
 | .goto _,_,_,_=>none
 | .ret,fr,H,k=>k .ret fr H
 | .rangeFunc g ps assign body,fr,H,k=>quC cfg cf kf f rd bs (opd (vr (cfg.lift f (qh body)) fr H).1 g) ps.toList assign body (vr (cfg.lift f (qh body)) fr H).1 (vr (cfg.lift f (qh body)) fr H).2 k
 | .refuse _,_,_,_=>none
inductive Ko where
 |seq (c:Code)
 |block (id:Nat)
 |scope
def kRun(cfg:Cfg)(cf:Orac)(kf:KF α)(f:Nat)(rd:Option Nat)(bs:Nat)(k:KE α):List Ko->KE α
 |[]=>k
 | .seq c::s=>kSeq (λfr H=>qL (cfg.cut f (qh c)) fr H λfr H=>qG cfg cf kf f rd bs c fr H (kRun cfg cf kf f rd bs k s)) (kRun cfg cf kf f rd bs k s)
 | .block id::s=>qO id (kRun cfg cf kf f rd bs k s)
 | .scope::s=>qa0 (kRun cfg cf kf f rd bs k s)
def kRes(cfg:Cfg)(fr:List AV)(H:AH):List ResultVar->(List AV->Option α)->Option α
 |[],k=>k []
 | .tmp t::l,k=>kRes cfg fr H l λvs=>k (fr.getD t .junk::vs)
 | .cell a t::l,k=>
  match cfg.ty t with
  |some ti=>qkk ti.d.agg ti.sz H (fr.getD a .junk) λv=>kTy noTy cfg t v λv=>kRes cfg fr H l λvs=>k (v::vs)
  |none=>none
variable {α : Type} {r : α} {H : AH}
theorem qo{b:Bool}{x:Option α}(h:cond b x none=some r):b=true∧x=some r:=by cases b<;>simp_all
theorem qs2{b:Bool}{x:Option α}(h:cond b none x=some r):b=false∧x=some r:=by cases b<;>simp_all
theorem xQ{b:Bool}{x y:Option α}(h:cond b x y=some r):(b=true∧x=some r)∨(b=false∧y=some r):=by cases b<;>simp_all
theorem qgC{a b:IntKind}(h:zR a b=true):a=b:=by simpa [zR]using h
theorem vK{a b:Int}:qd a b=true↔a<=b:=by simp[qd]
theorem zQ{a b:Int}:qe a b=true↔a<b:=by simp[qe]
theorem qbX{kd:IntKind}{v:AV}{k:Int->Option α}(h:kInt kd v k=some r):∃n,v= .int kd n∧k n=some r:=by
 unfold kInt at h;split at h
 ·obtain⟨h1,h2⟩:=qo h;rw[qgC h1];exact⟨_,rfl,h2⟩
 ·cases h
theorem qcl{v:AV}{k:Bool->Option α}(h:qr v k=some r):∃b,v= .bool b∧k b=some r:=by
 unfold qr at h;split at h
 ·exact⟨_,rfl,h⟩
 ·cases h
theorem zT{v:AV}{k:List UInt8->Option α}(h:kStr v k=some r):∃b,v= .str b∧k b=some r:=by
 unfold kStr at h;split at h
 ·exact⟨_,rfl,h⟩
 ·cases h
theorem qdo{v:AV}{k:List AV->Option α}(h:kAgg v k=some r):∃b,v= .agg b∧k b=some r:=by
 unfold kAgg at h;split at h
 ·exact⟨_,rfl,h⟩
 ·cases h
theorem qA{β:Type}{o:Option β}{k:β->Option α}(h:kOpt o k=some r):∃b,o=some b∧k b=some r:=by
 unfold kOpt at h;split at h
 ·exact⟨_,rfl,h⟩
 ·cases h
theorem qac{l:List AV}{k:AV->List AV->Option α}(h:qf l k=some r):∃a b,l=a::b∧k a b=some r:=by
 unfold qf at h;split at h
 ·exact⟨_,_,rfl,h⟩
 ·cases h
theorem qgF{l:List AV}{x:Option α}(h:kNil l x=some r):l=[]∧x=some r:=by
 unfold kNil at h;split at h
 ·exact⟨rfl,h⟩
 ·cases h
theorem qiu{s:FK}{v:AV}{k:KV α}(h:qa4 s v k=some r):k v=some r:=by
 cases s with
 |int kd=>obtain⟨n,rfl,h1⟩:=qbX h;exact h1
 |bool=>obtain⟨n,rfl,h1⟩:=qcl h;exact h1
 |str=>obtain⟨n,rfl,h1⟩:=zT h;exact h1
 |sl=>
  have h:kSl v (λrows=>k (.sl rows))=some r:=h;unfold kSl at h;split at h
  ·exact h
  ·cases h
 |any=>exact h
theorem qdI:∀{ss:List FK} {l:List AV} {k:List AV->Option α},qa5 ss l k=some r->k l=some r
 |[],l,k,h=>by
  obtain⟨rfl,h1⟩:=qgF h;exact h1
 |s::ss,l,k,h=>by
  obtain⟨a,b,rfl,h1⟩:=qac h;exact qdI (k:=λvs=>k (a::vs)) (qiu (k:=λv=>qa5 ss b λvs=>k (v::vs)) h1)
theorem qsy{l0:List AV}{k:List AV->Option α}(h0:qa5 [.int .i64,.int .i64,.str,.sl] l0 k=some r):qbn l0=true∧k l0=some r:=by
 refine⟨?_,qdI h0⟩;simp only[qa5]at h0;obtain⟨a,l1,rfl,h1⟩:=qac h0;obtain⟨n,rfl,h2⟩:=qbX (k:=λn=>qf l1 λc cs=>qa4 (.int .i64) c λv=>qf cs λc cs=>qa4 .str c λv1=>qf cs λc cs=>qa4 .sl c λv2=>kNil cs (k [.int .i64 n,v,v1,v2])) h1;obtain⟨a,l2,rfl,h3⟩:=qac h2;obtain⟨m,rfl,h4⟩:=qbX (k:=λm=>qf l2 λc cs=>qa4 .str c λv1=>qf cs λc cs=>qa4 .sl c λv2=>kNil cs (k [.int .i64 n,.int .i64 m,v1,v2])) h3
 obtain⟨a,l3,rfl,h5⟩:=qac h4;obtain⟨s,rfl,h6⟩:=zT (k:=λs=>qf l3 λc cs=>qa4 .sl c λv2=>kNil cs (k [.int .i64 n,.int .i64 m,.str s,v2])) h5;obtain⟨a,l4,rfl,h7⟩:=qac h6;have h8:kSl a (λrows=>kNil l4 (k [.int .i64 n,.int .i64 m,.str s,.sl rows]))=some r:=h7;unfold kSl at h8;split at h8
 ·obtain⟨rfl,_⟩:=qgF h8;rfl
 ·cases h8
theorem qdl{p:TypeId->Bool}{cfg:Cfg}{t:TypeId}{v:AV}{k:KV α}(h:kTy1 p cfg t v k=some r):k v=some r:=by
 unfold kTy1 at h;have agg:∀{ss:List FK},(kAgg v λcs=>qa5 ss cs λvs=>k (.agg vs))=some r->k v=some r:=by
  intro ss h;obtain⟨cs,rfl,h⟩:=qdo h;exact qdI (k:=λvs=>k (.agg vs)) h
 split at h
 ·split at h
  ·split at h
   ·exact agg h
   ·exact h
  ·split at h
   ·exact agg h
   ·exact h
  ·exact qiu h
 ·exact h
theorem qmH{p:TypeId->Bool}{cfg:Cfg}:∀{ts:List TypeId} {l:List AV} {k:List AV->Option α},kTys p cfg ts l k=some r->k l=some r
 |[],l,k,h=>by
  rw[kTys]at h;obtain⟨h1,h2⟩:=qgF h;rw[h1];exact h2
 |t::ts,l,k,h=>by
  rw[kTys]at h;obtain⟨a,b,rfl,h⟩:=qac h;have h1:=qdl (k:=λv=>kTys p cfg ts b λvs=>k (v::vs)) h;exact qmH (k:=λvs=>k (a::vs)) h1
theorem vO{p:TypeId->Bool}{cfg:Cfg}{t:TypeId}{v:AV}{k:KV α}(h:kTy p cfg t v k=some r):k v=some r:=by
 unfold kTy at h;split at h
 ·unfold kTup at h;split at h
  ·exact qmH (k:=λvs=>k (.tup vs)) h
  ·cases h
 ·exact qdl h
theorem xX{nid:Option Nat}{b:ABlk}{k:Nat->AH->Option α}(h:kNew nid H b k=some r):∃i H',aNew nid H b=some (i,H')∧k i H'=some r:=by
 unfold kNew at h;unfold aNew;cases nid with
 |none=>exact⟨_,_,rfl,h⟩
 |some i=>
  simp only at h⊢;obtain⟨x,hx,h⟩:=qA h;rw[hx];split at h
  ·exact⟨_,_,rfl,h⟩
  ·cases h
theorem qoR{v:AV}(h:v.isCell=true):v.cells=some [v]:=by cases v<;>simp_all [AV.isCell,AV.cells]
theorem qax{agg:Bool}{v:AV}{k:List AV->Option α}(h:qbw agg v k=some r):∃cs,v.cells=some cs∧k cs=some r:=by
 unfold qbw at h;rcases xQ h with⟨_,h⟩|⟨_,h⟩
 ·obtain⟨cs,rfl,h⟩:=qdo h;obtain⟨h1,h2⟩:=qo h;exact⟨cs,by simp[AV.cells,h1],h2⟩
 ·obtain⟨h1,h2⟩:=qo h;exact⟨_,qoR h1,h2⟩
theorem qss{t:Bool}{a b:AV}{k:KV α}(h:qst t a b k=some r):k (if t then a else b)=some r:=by
 have sp:∀{a b:AV},cond t (k a) (k b)=some r->k (if t then a else b)=some r:=by
  intro a b h;cases t<;>simpa using h
 unfold qst at h;split at h
 ·cases t<;>simpa using h
 ·rcases xQ h with⟨h1,h⟩|⟨_,h⟩
  ·have:=qgC h1;subst this;cases t<;>simpa using h
  ·exact sp h
 ·exact sp h
theorem qeW{place:Nat->Option (Nat×Nat×Bool)}{place':Nat->Option (Nat×Nat)}(hp:∀i off n g,place i=some (off,n,g)->place' i=some (off,n)):∀{parts:List (Nat×AV)} {cells:List AV} {k:List AV->Option α},
  qkp place cells parts k=some r->∃cs,qbP place' cells parts=some cs∧k cs=some r
 |[],cells,k,h=>⟨cells,rfl,h⟩
 |(i,v)::rest,cells,k,h=>by
  rw[qkp]at h;split at h
  ·rename_i off n g hi;obtain⟨cs,h1,h⟩:=qax h;obtain⟨h2,h⟩:=qo h;obtain⟨cs',h3,h4⟩:=qeW hp h;refine⟨cs',?_,h4⟩;rw[qB2]at h2;rw[qbP,hp _ _ _ _ hi,h1];simp only;rw[qCM]
   ·exact h3
   ·rw[qB2,beq_iff_eq];exact⟨qB9 h2.1,h2.2⟩
  ·cases h
theorem qjX{cfg:Cfg}:∀{fs:List (Nat×TypeId)} {ps:List (Nat×Nat×Bool)},qhz cfg fs=some ps->∃qs,zL cfg fs=some qs∧∀(i off n:Nat) (g:Bool),ps[i]? =some (off,n,g)->qs[i]? =some (off,n)
 |[],ps,h=>by cases h;exact⟨[],rfl,λi off n g h=>by simp at h⟩
 |(off,t)::l,ps,h=>by
  rw[qhz]at h;split at h
  ·rename_i n ps' h1 h2;cases h;obtain⟨qs,h3,h4⟩:=qjX h2;refine⟨(off,n)::qs,by rw[zL,h1,h3],λi o m g hi=>?_⟩;cases i with
   |zero=>simp at hi⊢;exact⟨hi.1,hi.2.1⟩
   |succ i=>simpa using h4 i o m g (by simpa using hi)
  ·cases h
theorem qkh{agg:Bool}{n:Nat}:∀{parts:List (Nat×AV)} {rows:List (List AV)} {k:List (List AV)->Option α},qnt agg n rows parts k=some r->∃rs,qbh n rows parts=some rs∧k rs=some r
 |[],rows,k,h=>⟨rows,rfl,h⟩
 |(i,v)::rest,rows,k,h=>by
  rw[qnt]at h;obtain⟨cs,h1,h⟩:=qax h;obtain⟨h2,h⟩:=qo h;obtain⟨rs,h3,h4⟩:=qkh h;refine⟨rs,?_,h4⟩;rw[qB2]at h2;rw[qbh,h1];simp only;rw[qCM]
  ·exact h3
  ·rw[qB2,beq_iff_eq];exact⟨qB9 h2.1,h2.2⟩
theorem qaN{id:Nat}{k:Nat->List (List AV)->Option α}(h:kBlk H id k=some r):∃sz rs,q5 H id=some (sz,rs)∧k sz rs=some r:=by
 unfold kBlk at h;obtain⟨b,hb,h⟩:=qA h;unfold q5;rw[hb];split at h
 ·exact⟨_,_,rfl,h⟩
 ·exact⟨_,_,rfl,h⟩
 ·cases h
theorem qa3{g s:Bool}{v:AV}{k:KV α}(h:qkn g s H v k=some r):(∀ids,(∀id off len,v= .ms id off len->id∈ids)->s=false->k (cond g (v.frz1 ids H).fg1 (v.frz1 ids H))=some r)∧(s=true->k (cond g (v.snap1 H).fg1 (v.snap1 H))=some r):=by
 unfold qkn at h;split at h
 ·rename_i id off len;obtain⟨sz,rs,h1,h⟩:=qaN h;rcases hc:(qB4 (off+len) rs.length&&(xx H id||qI 0 ((rs.drop off).take len)))with _|_
  ·rw[hc]at h;cases h
  ·rw[hc]at h;have h:k (.sl ((rs.drop off).take len))=some r:=h;have aux:∀ids:List Nat,id∈ids->(AV.ms id off len).frz1 ids H= .sl ((rs.drop off).take len):=by
    intro ids hi;simp only[AV.frz1,h1];rw[qCM];rw[Bool.and_assoc,hc,Bool.and_true];exact vC.2 hi
   refine⟨λids hi _=>?_,λ_=>?_⟩
   ·rw[aux ids (hi _ _ _ rfl)];cases g<;>exact h
   ·simp only[AV.snap1];rw[aux [id] (by simp)];cases g<;>exact h
 ·refine⟨λids _ _=>?_,λ_=>?_⟩<;>(cases g<;>exact h)
 ·refine⟨λids _ _=>?_,λ_=>?_⟩<;>(cases g<;>exact h)
 ·split at h
  ·refine⟨λids _ _=>?_,λ_=>?_⟩<;>(cases g<;>exact h)
  ·cases h
 ·rename_i id r' off;cases s with
  |false=>exact⟨λids _ _=>by cases g<;>exact h,λh=>by cases h⟩
  |true=>
   refine⟨λ_ _ h=>by(cases h),λ_=>?_⟩;obtain⟨sz,rs,h1,h⟩:=qaN h;obtain⟨row,h2,h⟩:=qA h;obtain⟨h3,h⟩:=qo h;simp only[AV.snap1,h1,h2,qkU,h3,if_true];cases g<;>exact h
 ·rename_i id rows;cases s with
  |false=>exact⟨λids _ _=>by cases g<;>exact h,λh=>by cases h⟩
  |true=>
   refine⟨λ_ _ h=>by(cases h),λ_=>?_⟩;obtain⟨b,h1,h⟩:=qA h;split at h
   ·simp only[AV.snap1,h1];cases rows<;>cases g<;>exact h
   ·cases h
 ·rename_i hn1 hn2 hn4 hn6 hn3 hn5;refine⟨λids _ _=>?_,λ_=>?_⟩
  ·have:v.frz1 ids H=v:=by
    cases v<;>first|rfl|exact absurd rfl (hn1 _ _ _)
   rw[this];have:v.fg1=v:=by
    cases v<;>first|rfl|exact absurd rfl hn2|exact absurd rfl hn4|exact absurd rfl (hn6 _ _)
   rw[this];cases g<;>exact h
  ·have:v.snap1 H=v:=by
    cases v<;>first|rfl|exact absurd rfl (hn1 _ _ _)|exact absurd rfl (hn3 _ _ _)|exact absurd rfl (hn5 _ _)
   rw[this];have:v.fg1=v:=by
    cases v<;>first|rfl|exact absurd rfl hn2|exact absurd rfl hn4|exact absurd rfl (hn6 _ _)
   rw[this];cases g<;>exact h
theorem qbY{g:Bool}{ids:List Nat}:∀{l:List AV} {k:List AV->Option α},(∀v∈l,∀id off len,v= .ms id off len->id∈ids)->qaw g false H l k=some r->k (l.map λv=>cond g (v.frz1 ids H).fg1 (v.frz1 ids H))=some r
 |[],k,_,h=>h
 |a::l,k,hi,h=>by
  rw[qaw]at h;have h1:=(qa3 h).1 ids (hi a (by simp)) rfl;exact qbY (k:=λl=>k (cond g (a.frz1 ids H).fg1 (a.frz1 ids H)::l)) (λv hv=>hi v (by simp[hv])) h1
theorem qcj{g:Bool}:∀{l:List AV} {k:List AV->Option α},qaw g true H l k=some r->k (l.map λv=>cond g (v.snap1 H).fg1 (v.snap1 H))=some r
 |[],k,h=>h
 |a::l,k,h=>by
  rw[qaw]at h;have h1:=(qa3 h).2 rfl;exact qcj (k:=λl=>k (cond g (a.snap1 H).fg1 (a.snap1 H)::l)) h1
theorem qdi{l:List AV}{v:AV}(hv:v∈l){id off len:Nat}(h:v= .ms id off len):id∈l.flatMap AV.msId:=by
 subst h;exact List.mem_flatMap.2 ⟨_,hv,by simp[AV.msId]⟩
theorem qbZ{v:AV}{k:KV α}(h:qbF false H v k=some r):k (v.frz v.msIds H).fg=some r:=by
 unfold qbF at h;split at h
 ·rename_i cs;have:=qbY (ids:=cs.flatMap AV.msId) (λv hv id off len e=>qdi hv e) h
  simpa [AV.frz,AV.fg,AV.msIds,Function.comp_def]using this
 ·rename_i cs;have:=qbY (k:=λcs=>k (.tup cs)) (ids:=cs.flatMap AV.msId) (λv hv id off len e=>qdi hv e) h
  simpa [AV.frz,AV.fg,AV.msIds,Function.comp_def]using this
 ·exact h
 ·rename_i h1 h2 h3;have h4:=(qa3 h).1 v.msIds (λid off len e=>by subst e;simp[AV.msIds,AV.msId]) rfl;have e1:v.frz v.msIds H=v.frz1 v.msIds H:=by
   cases v<;>first|rfl|exact absurd rfl (h1 _)|exact absurd rfl (h2 _)
  have e2:(v.frz1 v.msIds H).fg=(v.frz1 v.msIds H).fg1:=by
   cases v<;>first|rfl|exact absurd rfl (h1 _)|exact absurd rfl (h2 _)|skip
   simp only[AV.frz1];split
   ·split<;>rfl
   ·rfl
  rw[e1,e2];exact h4
theorem qsu{v:AV}{k:KV α}(h:qbF true H v k=some r):k (v.snap H).fg=some r:=by
 unfold qbF at h;split at h
 ·rename_i cs;have:=qcj h
  simpa [AV.snap,AV.fg,Function.comp_def]using this
 ·exact h
 ·rename_i f a b;have h2:=qcj (k:=λa=>qaw false true H b λb=>k (.fn f a b)) h;have h3:=qcj (k:=λb=>k (.fn f (a.map (AV.snap1 H)) b)) h2;exact h3
 ·rename_i h1 h2 h3;have h4:=(qa3 h).2 rfl;have e1:v.snap H=v.snap1 H:=by
   cases v<;>first|rfl|exact absurd rfl (h1 _)|exact absurd rfl (h3 _ _ _)
  have e2:(v.snap1 H).fg=(v.snap1 H).fg1:=by
   cases v<;>first|rfl|exact absurd rfl (h1 _)|exact absurd rfl (h2 _)|skip
   ·simp only[AV.snap1,AV.frz1];split
    ·split<;>rfl
    ·rfl
   ·simp only[AV.snap1];split
    ·split<;>rfl
    ·rfl
   ·simp only[AV.snap1];split<;>rfl
  rw[e1,e2];exact h4
theorem qkt:∀{l:List AV} {k:List AV->Option α},qnx H l k=some r->k (l.map λa=>(a.snap H).fg)=some r
 |[],k,h=>h
 |a::l,k,h=>by
  rw[qnx]at h;have h1:=qsu h;exact qkt (k:=λl=>k ((a.snap H).fg::l)) h1
theorem qad{id:Nat}{k:Bool->Nat->List (List AV)->Option α}(h:qdn H id k=some r):∃d sz rs,H[id]? =some (.rows d sz rs)∧k d sz rs=some r:=by
 unfold qdn at h;obtain⟨b,hb,h⟩:=qA h;split at h
 ·exact⟨_,_,_,hb,h⟩
 ·cases h
theorem yK{agg:Bool}{n off:Nat}{cells:List AV}{k:KV α}(h:qbE agg n cells off k=some r):
  ∃v,(if agg then(if qB4 (off+n) cells.length then some (AV.agg ((cells.drop off).take n))else none)else cells[off]?)=some v∧k v=some r:=by
 unfold qbE at h;rcases xQ h with⟨rfl,h⟩|⟨rfl,h⟩
 ·obtain⟨h1,h2⟩:=qo h;exact⟨_,by simp[h1],h2⟩
 ·obtain⟨v,h1,h2⟩:=qA h;exact⟨v,by simp[h1],h2⟩
theorem qeT{agg:Bool}{n:Nat}{p:AV}{k:KV α}(h:qkk agg n H p k=some r):∃v,zt agg n H p=some v∧k v=some r:=by
 unfold qkk at h;unfold zt;split at h
 ·obtain⟨sz,rs,h1,h⟩:=qaN h;obtain⟨row,h2,h⟩:=qA h;obtain⟨v,h3,h4⟩:=yK h;exact⟨v,by simp only[h1,h2];exact h3,h4⟩
 ·obtain⟨v,h3,h4⟩:=yK h;exact⟨v,h3,h4⟩
 ·obtain⟨v,h3,h4⟩:=yK h;refine⟨v,?_,h4⟩;rw[←h3];simp only[qCH,List.map_take,List.map_drop,List.getElem?_map]
 ·obtain⟨b,h1,h⟩:=qA h;split at h
  ·obtain⟨v,h3,h4⟩:=yK h;refine⟨v,?_,h4⟩;simp only[h1];rw[←h3];simp only[qCH,List.map_take,List.map_drop,List.getElem?_map]
  ·simp only[h1];rcases xQ h with⟨ha,h⟩|⟨ha,h⟩
   ·obtain⟨h2,h⟩:=qo h;obtain⟨h3,h⟩:=qsy h;exact⟨_,by rw[qCM ha,qCM (by rw[h2,h3];rfl)],h⟩
   ·obtain⟨rows,h2,h⟩:=qA h;exact⟨_,by rw[qCN (by rw[ha];simp)];unfold qlr;rw[h2];rfl,h⟩
  ·cases h
 ·cases h
theorem qqm{agg:Bool}{n:Nat}{p v:AV}{k:AH->Option α}(h:qoB agg n H p v k=some r):∃H',zg n H p v=some H'∧k H'=some r:=by
 unfold qoB at h;unfold zg;split at h
 ·obtain⟨cs,h1,h⟩:=qax h;obtain⟨d,sz,rs,h2,h⟩:=qad h;obtain⟨row,h3,h⟩:=qA h;obtain⟨h4,h⟩:=qo h;rw[qB2]at h4;refine⟨_,?_,h⟩;simp only[h1,h2,h3];rw[qCM];rw[qB2,beq_iff_eq];exact⟨qB9 h4.1,h4.2⟩
 ·obtain⟨b,h1,h⟩:=qA h;split at h
  ·rcases xQ h with⟨h4,h⟩|⟨h4,h⟩
   ·obtain⟨h2,h⟩:=qo h;refine⟨H,?_,h⟩;have h77:is77 v=true:=by rw[qB2]at h2;exact h2.2
    have hv:∃cs,v.cells=some cs:=by
     rcases qra h77 with rfl|rfl
     ·exact⟨_,rfl⟩
     ·exact⟨_,rfl⟩
    obtain⟨cs,hv⟩:=hv;simp only[hv,h1];rw[qCM (by rw[h4,qCF];exact h2)]
   ·obtain⟨h2,h⟩:=qo h;refine⟨H,?_,h⟩;have h99:qcx v=true:=by rw[qB2]at h2;exact h2.2
    have hv:∃cs,v.cells=some cs:=by
     unfold qcx at h99;split at h99
     ·exact⟨_,rfl⟩
     ·exact⟨_,rfl⟩
     ·cases h99
    obtain⟨cs,hv⟩:=hv;simp only[hv,h1];rw[qCN (by rw[h4];simp),qCM h2]
  ·cases h
 ·cases h
theorem qdJ{lo hi d:Nat}{x:Option AV}{k:Nat->Option α}(h:qgK lo hi x d k=some r):∃n,qbe lo hi x d=some n∧k n=some r:=by
 unfold qgK at h;unfold qbe;split at h
 ·exact⟨_,rfl,h⟩
 ·split at h
  ·obtain⟨h1,h⟩:=qo h;rw[qB2,vK,vK]at h1;exact⟨_,by simp only;rw[qCM h1],h⟩
  ·cases h
theorem qav{n:Nat}{lo hi mx:Option AV}{k:Nat->Nat->Option α}(h:qbv n lo hi mx k=some r):∃l h',qaI n lo hi mx=some (l,h')∧k l h'=some r:=by
 unfold qbv at h;obtain⟨h0,h⟩:=qs2 h;obtain⟨a,h1,h⟩:=qdJ h;obtain⟨b,h2,h⟩:=qdJ h;obtain⟨c,h3,h⟩:=qdJ h;refine⟨c,a,?_,h⟩;unfold qaI;rw[qCN (by rw[h0];simp),h1];simp only[h2,h3]
theorem qqn{cfg:Cfg}{t:TypeId}{x:AV}{lo hi mx:Option AV}{k:KV α}(h:qoC cfg t H x lo hi mx k=some r):∃v,qbg cfg t H x lo hi mx=some v∧k v=some r:=by
 unfold qoC at h;unfold qbg;split at h
 ·rename_i ht;rw[ht];split at h
  ·split at h
   ·obtain⟨l,h',h1,h⟩:=qav h;exact⟨_,by simp only[h1],h⟩
   ·cases h
  ·cases h
 ·rename_i e ht;rw[ht];split at h
  ·rename_i n hn;split at h
   ·obtain⟨l,h',h1,h⟩:=qav h;exact⟨_,by simp only[hn,h1],h⟩
   ·rename_i rows;obtain⟨l,h',h1,h⟩:=qav h;obtain⟨h2,h⟩:=qo h;refine⟨slE (cfg.ems t) rows l h',by simp only[hn,h1,h2,if_true],?_⟩;split at h
    ·rename_i he;rw[he];exact h
    ·rename_i he;rw[he];exact h
   ·obtain⟨l,h',h1,h⟩:=qav h;obtain⟨sz,rs,h2,h⟩:=qaN h;obtain⟨h3,hz⟩:=qo h;have:=qB9 h3;subst this;exact⟨_,by simp[hn,h1,h2],hz⟩
   ·split at h
    ·split at h
     ·rename_i kd hh _;split at h
      ·obtain⟨h2,hz⟩:=qo h;rw[qB2,vK,vK]at h2;exact⟨_,by simp only[hn,AV.lenW];rw[qCM h2],hz⟩
      ·obtain⟨h2,hz⟩:=qo h;rw[qB2,vK,vK]at h2;exact⟨_,by simp only[hn,AV.lenW];rw[qCM h2],hz⟩
      ·cases h
     ·cases h
    ·cases h
   ·cases h
  ·cases h
 ·cases h
theorem qkl{cfg:Cfg}{t:TypeId}{x i:AV}{k:KV α}(h:qeU cfg t H x i k=some r):∃v,yi cfg t H x i=some v∧k v=some r:=by
 unfold qeU at h;unfold yi;split at h
 case h_2=>cases h
 rename_i kk i;split at h
 ·rename_i e ht;rw[ht];split at h
  case h_2=>cases h
  rename_i n hn;split at h
  ·obtain⟨sz,rs,h1,h⟩:=qaN h;obtain⟨h2,hz⟩:=qo h;rw[qB2,qB2,vK,zQ]at h2;have:=qB9 h2.1.1;subst this;exact⟨_,by simp[hn,h1,h2.1.2,h2.2],hz⟩
  ·obtain⟨h2,h⟩:=qo h;rw[qB2,vK,zQ]at h2;obtain⟨row,h3,h⟩:=qA h;obtain⟨h4,hz⟩:=qo h;refine⟨.cptr row 0,?_,hz⟩;have h5:=qB9 h4;simp only[hn,qCM h2,h3];rw[qCM (by rw[h5];exact beq_self_eq_true n)]
  ·obtain⟨h2,h⟩:=qo h;rw[qB2,vK,zQ]at h2;obtain⟨row,h3,h⟩:=qA h;obtain⟨h4,hz⟩:=qo h;refine⟨.lpt row 0,?_,hz⟩;have h5:=qB9 h4;simp only[hn,qCM h2,h3];rw[qCM (by rw[h5];exact beq_self_eq_true n)]
  ·rename_i id rows;obtain⟨h2,h⟩:=qo h;rw[qB2,vK,zQ]at h2;obtain⟨row,h3,h⟩:=qA h;obtain⟨h4,hz⟩:=qo h;refine⟨.rpt id row 0,?_,hz⟩;have h5:=qB9 h4;simp only[hn,qCM h2,h3];rw[qCM (by rw[h5];exact beq_self_eq_true n)]
  ·cases h
 ·rename_i m e ht;rw[ht];split at h
  case h_2=>cases h
  rename_i n hn;split at h
  ·obtain⟨h2,h⟩:=qo h;rw[qB2,vK,zQ]at h2;exact⟨_,by simp[hn,h2.1,h2.2],h⟩
  ·obtain⟨h2,h⟩:=qo h;rw[qB2,vK,zQ]at h2;exact⟨_,by simp[hn,h2.1,h2.2],h⟩
  ·cases h
 ·cases h
theorem qxz{cfg:Cfg}{t:TypeId}{ti:TI}(h:cfg.ty t=some ti):cfg.sz t=some ti.sz∧cfg.td t=some ti.d:=by
 unfold Cfg.sz Cfg.td;rw[h];exact⟨rfl,rfl⟩
theorem qqq{cfg:Cfg}{t:TypeId}{x i:AV}{k:KV α}(h:qoL cfg t x i k=some r):∃v,qej cfg t x i=some v∧k v=some r:=by
 unfold qoL at h;unfold qej;split at h
 case h_2=>cases h
 rename_i kk i;split at h
 ·rename_i n e ht;rw[ht];split at h
  case h_2=>cases h
  rename_i ti hti;obtain⟨cs,rfl,h⟩:=qdo h;obtain⟨h2,h⟩:=qo h;rw[qB2,vK,zQ]at h2;obtain⟨v,h3,h⟩:=yK h;refine⟨v,?_,h⟩;simp only[(qxz hti).1];rw[qCM h2];unfold qhI;rw[hti];exact h3
 ·rename_i ht;rw[ht];obtain⟨s,rfl,h⟩:=zT h;obtain⟨h2,h⟩:=qo h;rw[vK]at h2;obtain⟨b,h3,h⟩:=qA h;exact⟨_,by simp[h2,h3],h⟩
 ·cases h
theorem qqr{cfg:Cfg}{t:TypeId}{x:AV}{f:Nat}{k:KV α}(h:qoM cfg t x f k=some r):∃v,qek cfg t x f=some v∧k v=some r:=by
 unfold qoM at h;unfold qek;split at h
 case h_2=>cases h
 rename_i fs ht;rw[ht];split at h
 case h_2=>cases h
 rename_i off ft hf;split at h
 case h_2=>cases h
 rename_i ti hti;obtain⟨cs,rfl,h⟩:=qdo h;obtain⟨v,h3,h⟩:=yK h;refine⟨v,?_,h⟩;simp only[hf];unfold qhI;rw[hti];exact h3
theorem qkq{cfg:Cfg}{t:TypeId}{x:AV}{f:Nat}{k:KV α}(h:qeX cfg t x f k=some r):∃v,qai cfg t x f=some v∧k v=some r:=by
 unfold qeX at h;unfold qai;split at h
 case h_2=>cases h
 rename_i fs ht;rw[ht];simp only;split at h
 case h_2=>cases h
 rename_i off ft hf;simp only[hf];split at h
 case h_2=>cases h
 rename_i n hn;split at h
 ·exact⟨_,by simp only[hn],h⟩
 ·exact⟨_,by simp only[hn],h⟩
 ·exact⟨_,by simp only[hn],h⟩
 ·cases h
end Go.Av
end
