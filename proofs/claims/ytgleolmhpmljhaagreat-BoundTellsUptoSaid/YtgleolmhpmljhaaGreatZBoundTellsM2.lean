/-
  Parts of the proof of BoundTellsUptoSaid, put together: the abstract evaluation and its contracts. Own work.
  What is proved: each lemma as it stands; no condition.
-/
import Derived.LoopNIn
import Derived.Test.YtgleolmhpmljhaaGreatZBoundTellsM1
open Go.IntKind renaming wrap → qFD
open List renaming getElem?_eq_getElem → qFE, getElem?_eq_some_iff → qFF, get?Internal → qFG, length → qFI, mem_of_getElem? → qFK, take → qFN, take_of_length_le → qFP, drop_eq_getElem_cons → qFS, length_append → qFU, drop_eq_nil_of_le → qFV, getElem?_append_left → qFX, eq_nil_of_length_eq_zero → qFZ, getElem?_append_right → qF0, getElem?_set → qF1, append → qF2, mem_cons → qF6, mem_append → qF8, length_take → qF9, drop → qGb, replicate → qGd, length_cons → qGf, append_nil → qGh, take_add_one → qGk, append_assoc → qGl, range → qGn
open Nat renaming le_refl → qFH, eq_of_beq_eq_true → qFO, ble → qFR, beq → qFY, beq_refl → qF3, mul_le_mul_right → qGe, zero_add → qGi, ble_eq → qGj
open Bool renaming and_eq_true → qFJ, not_true → qFW, not_false → qF4, false_eq_true → qF5, and_self → qF7, true_and → qGm
open Option renaming bind_eq_some_iff → qFL, map_eq_some_iff → qFM, bind_some → qGa, map_some → qGc
open Int renaming toNat → qFQ, toNat_natCast → qFT
open Array renaming toList → qGg
set_option maxRecDepth 1000000
set_option maxHeartbeats 0
noncomputable section
namespace Go.Av
variable {C C' : qk} {μ μ' : MMap} {H H' : AH} {w w' : World} {P : Program}
theorem Grew.bytes(w:World)(e:TypeId)(s:ByteArray):Grew w (Lib.bytesWorld w e s) (Lib.bytesCells w e s) e:=
 ⟨rfl,rfl,rfl,Lib.bytesWorld_size w e s,λb hb=>Lib.bytesWorld_at_old w e s b hb,⟨_,Lib.bytesWorld_at_new w e s,λo ho h=>by simp at h;omega⟩⟩
theorem qkK{r:List AV}{l:List (List AV)}{bs:List UInt8}(h:xV (r::l)=some bs):
  ∃n bs',r=[.int .u8 n]∧0<=n∧n<256∧xV l=some bs'∧bs=UInt8.ofNat n.toNat::bs':=by
 unfold xV at h;split at h
 ·rename_i hh;cases hh
 ·rename_i n l' hh;cases hh;split at h
  ·rename_i hb;split at h
   ·rename_i bs' hbs;cases h;exact⟨n,bs',rfl,hb.1,hb.2,hbs,rfl⟩
   ·cases h
  ·cases h
 ·cases h
theorem qmi[Lent]:∀{rows:List (List AV)} {bs:List UInt8} {vs:List Value},xV rows=some bs->vr C μ 1 rows vs ->
  ∃ns:List Int,vs=ns.map (Value.int .u8)∧∀r:ByteArray,ns.foldl (λr n=>r.push (UInt8.ofNat n.toNat)) r=⟨r.data++bs.toArray⟩
 |[],bs,vs,h,hf=>by
  simp[xV]at h;subst h;have:vs=[]:=qFZ (by simpa using hf.1);subst this;exact⟨[],rfl,λr=>by simp⟩
 |r::l,bs,vs,h,hf=>by
  obtain⟨n,bs',rfl,h0,h1,h2,rfl⟩:=qkK h;obtain⟨_,hr⟩:=hf.2 0 _ rfl;obtain⟨_,v,hv,hrep⟩:=hr 0 _ rfl;cases hrep;cases vs with
  |nil=>simp at hv
  |cons v vs=>
   simp at hv;subst hv;have hd:=hf.drop 1;simp at hd;obtain⟨ns,e1,e2⟩:=qmi h2 hd;refine⟨n::ns,by simp[e1],λr=>?_⟩;simp only[List.foldl_cons,e2];simp[ByteArray.push]
theorem qnB[Lent]{cfg:Cfg}(hc:CfgTy cfg)(h:Wld C μ H w){nid:Option Nat}{src dst:TypeId}{x r:AV}{vx:Value}(he:qai cfg nid src dst x H=some (r,H'))(hx:Rep C μ x vx):
  Runs cfg.P (convert src dst vx) C μ H w r H':=by
 unfold qai at he;split at he
 ·rename_i sd k k' n hs hd;cases he;cases hx;obtain⟨_,us,_,_,hus,_⟩:=hc.td hs;obtain⟨_,ud,_,_,hud,hd'⟩:=hc.td hd;have:=qlh hd';subst this;exact Runs.pure' h ⟨.int k (k.wrap n),by simp[convert,run_underlying hus,run_underlying hud,Conv.intToInt],.int _ _⟩
 ·rename_i sd s hs hd;cases he;cases hx;obtain⟨_,us,_,_,hus,_⟩:=hc.td hs;obtain⟨_,ud,_,_,hud,hd'⟩:=hc.td hd;have:=qeM hd';subst this;exact Runs.pure' h ⟨_,by simp[convert,run_underlying hus,run_underlying hud],.str _⟩
 ·rename_i sd e s hs hd;obtain⟨_,us,_,_,hus,_⟩:=hc.td hs;obtain⟨_,ud,_,_,hud,hd'⟩:=hc.td hd;have:=vG hd';subst this;split at he
  case h_2=>cases he
  rename_i hte;obtain⟨_,ue,_,_,hue,he'⟩:=hc.td hte;have:=qlh he';subst this;split at he
  case h_2=>cases he
  rename_i k H1 hnew;cases he;cases hx;have hrun:=Lib.run_convert_string_bytes w src dst e ⟨s.toArray⟩ hus hud hue;have hsz:(⟨s.toArray⟩:ByteArray).size=s.length:=by simp[ByteArray.size]
  have hge:s.length<=grownCap w s.length 0 e:=by unfold grownCap Question.cut;exact Nat.le_add_right _ _
  have hcs:(Lib.bytesCells w e ⟨s.toArray⟩).size=grownCap w s.length 0 e:=by
   simp[Lib.bytesCells,hsz];omega
  have hfl:=qcB (C:=C) (μ:=μ) s;obtain⟨g1,g2,g3⟩:=qdm h (Grew.bytes w e ⟨s.toArray⟩) hnew (by rw[hcs,qah];omega) (λi row hi'=>⟨(hfl.2 i row hi').1,λj y hj=>by
   obtain⟨c1,v,c2,c3⟩:=(hfl.2 i row hi').2 j y hj;refine⟨c1,v,?_,c3⟩;have hlt:=(qFF.1 c2).1;unfold Lib.bytesCells;rw[Array.getElem?_append_left (by simpa using hlt)]
   simpa using c2⟩) (λ_=>qgg s)
  rw[hsz]at hrun;refine⟨_,_,C,_,hrun,.ms k 0 s.length _ _ _ (by unfold upd;rw[qGq rfl]) hge (λ_=>⟨by simp,?_⟩),g1,g2 _ (qFH _)⟩;show(0+grownCap w s.length 0 e)*1<=(Lib.bytesCells w e ⟨s.toArray⟩).size;rw[hcs];omega
 ·rename_i e hs hd _;split at he
  case h_2=>cases he
  rename_i rows hte hrows;split at he
  case h_2=>cases he
  rename_i bs hbs;cases he;obtain⟨_,us,_,_,hus,hs'⟩:=hc.td hs;have:=vG hs';subst this;obtain⟨_,ud,_,_,hud,hd'⟩:=hc.td hd;have:=qeM hd';subst this;obtain⟨_,ue,_,_,hue,he'⟩:=hc.td hte;have:=qlh he';subst this;obtain⟨a,cap,vs,rfl,e2,e3,e4,_,e6⟩:=qch (P:=cfg.P) h (n:=1) (by omega) hx hrows;obtain⟨ns,f1,f2⟩:=qmi hbs e3;refine Runs.pure' h ⟨.string ⟨bs.toArray⟩,?_,.str _⟩;rw[run_convert_bytes_string w src dst e a rows.length cap hus hue hud]
  have hfc:=e4 w rfl;cases a with
  |none=>
   have:rows=[]:=e6 rfl;subst this;simp[xV]at hbs;subst hbs;simp[Conv.bytesToString];rfl
  |some a=>
   have hl:(loadCells a rows.length).run cfg.P w= .ok (ns.map (Value.int .u8)).toArray w:=by
    simp[Builtin.firstCells]at hfc;rw[←f1];exact hfc
   rw[run_bytesToString w a rows.length cap ns hl,f2];have he0:ByteArray.empty.data= #[]:=rfl;rw[he0];simp
 ·cases he
theorem qhx[Lent](h:Wld C μ H w){nid:Option Nat}{k:Nat}{t:TypeId}{v:Value}{d:Bool}{cs:List AV}{vs:List Value}(hd:d=true->qK 0 cs=true)(hv:v.cells=vs.toArray)(hcs:yF C μ cs vs)(hn:aNew nid H (.rows d cs.length [cs])=some (k,H')):Runs P (do pure (.pointer (some (←newVar t v)))) C μ H w (.ptr k 0 0) H':=by
 have hfl:=vr.one_row rfl hcs;have hg:Grew w (w.alloc (.cells vs.toArray t)) vs.toArray t:=Grew.alloc _ _ _;obtain⟨g1,g2,g3⟩:=qdm h hg hn (by simp[hcs.1]) (λi row hi'=>⟨(hfl.2 i row hi').1,λj y hj=>by
  obtain⟨c1,v,c2,c3⟩:=(hfl.2 i row hi').2 j y hj;exact⟨c1,v,by simpa using c2,c3⟩⟩) (λh=>by simp[qQ,hd h])
 refine⟨_,_,C,_,?_,.ptr k 0 0 (MI.mk4 w.heap.size 0 vs.toArray.size cs.length) (by unfold upd;rw[qGq rfl]),g1,g2 _ (qFH _)⟩;simp[newVar,newRow,hv]
theorem qhy[Lent](h:Wld C μ H w){nid:Option Nat}{k:Nat}{t e:TypeId}{v:Value}(hv:v.cells= #[.pointer none,.slice none 0 0])(hn:aNew nid H (.bld t e [])=some (k,H')):Runs P (do pure (.pointer (some (←newVar t v)))) C μ H w (.ptr k 0 0) H':=by
 have hg:Grew w (w.alloc (.cells #[.pointer none,.slice none 0 0] t)) #[.pointer none,.slice none 0 0] t:=Grew.alloc _ _ _;have hnl:¬Live H μ w.heap.size:=λhl=>Nat.lt_irrefl _ (h.live_lt hl)
 have hnc:∀o,C w.heap.size o=none:=λo=>by
  cases hc:C w.heap.size o with
  |none=>rfl
  |some v=>exact absurd (h.block_lt hc) (Nat.lt_irrefl _)
 have hw':=h.world (w':=w.alloc (.cells #[.pointer none,.slice none 0 0] t)) (by rw[hg.size];omega) (λb hb=>hg.old b hb);have hb:xr C (upd μ k (MI.mk4 w.heap.size 0 2 2)) (w.alloc (.cells #[.pointer none,.slice none 0 0] t)) (MI.mk4 w.heap.size 0 2 2) (.bld t e []):=
  ⟨rfl,_,_,heap_alloc_new w _,.inl rfl,World.ownsRowF_nil _ 0 e 1,by simp[Value.ownBlock],λ_=>rfl,λg hg=>by simp[Value.ownBlock]at hg⟩
 obtain⟨e1,e2,e3,e4,e5⟩:=hw'.new4 hn hnl (by rw[hg.size];simp) hnc (h.lent_none (qFH _)) rfl hb trivial;refine⟨_,_,C,_,?_,.ptr k 0 0 (MI.mk4 w.heap.size 0 2 2) (by unfold upd;rw[qGq rfl]),e1,⟨hg.os,hg.tape,hg.output,by rw[hg.size];omega,λ_ _ _ h=>h,λid m' _ hm'=>⟨_,e2 id m' hm',.refl _⟩,λb hb hnl=>⟨hg.old b hb,λhl=>?_,rfl⟩,e3⟩⟩
 ·simp[newVar,newRow,hv]
 ·rcases e4 b hl with h'|h'
  ·exact hnl h'
  ·omega
theorem qsH[Lent]{cfg:Cfg}(hc:CfgTy cfg)(h:Wld C μ H w){nid:Option Nat}{t ty:TypeId}{x:Operand->AV}{r:AV}(he:evOp cfg nid (.alloc t) ty x H=some (r,H')):
  Runs cfg.P (Instr.alloc t true (.tuple #[])) C μ H w r H':=by
 simp only[evOp]at he;split at he
 case h_2=>cases he
 rename_i ti hti;split at he
 case isFalse=>cases he
 rename_i hall;split at he
 case h_2=>cases he
 rename_i k H1 hnew;cases he;obtain⟨z,hz1,hz2⟩:=qaK (hc.ty _ _ hti) w
 by_cases hb:∃e,cfg.bld t=some e∧ti.zero=[.nilP,.nilS]
 ·obtain⟨e,hb1,hb2⟩:=hb;have hnew:aNew nid H (.bld t e [])=some (k,H'):=by rw[←hnew];unfold qfW;rw[hb1,hb2]
  have hzc:=qcC (C:=C) (μ:=μ) hz2 hall;rw[hb2]at hzc;obtain⟨c0,c1,hcs⟩:∃c0 c1,z.cells.toList=[c0,c1]:=by
   have:=hzc.1
   match z.cells.toList,this with
   |[a,b],_=>exact⟨a,b,rfl⟩
  rw[hcs]at hzc;have r0:=(hzc.2 0 _ c0 rfl rfl).2;have r1:=(hzc.2 1 _ c1 rfl rfl).2;cases r0;cases r1;have hzv:z.cells= #[.pointer none,.slice none 0 0]:=by rw[←Array.toList_inj,hcs]
  obtain⟨v,w',C',μ',e1,e2,e3,e4⟩:=qhy (P:=cfg.P) (t:=t) (v:=z) h hzv hnew;refine⟨v,w',C',μ',?_,e2,e3,e4⟩;simp only[Instr.alloc,Sem.run_bind,hz1,Result.andThen_ok];exact e1
 replace hnew:aNew nid H (.rows (bigZ (cfg.fga t ti.zero)) ti.zero.length [cfg.fga t ti.zero])=some (k,H'):=by
  rw[←hnew];unfold qfW;split
  ·rename_i e h1 h2;exact absurd ⟨e,h1,h2⟩ hb
  ·rfl
 obtain⟨v,w',C',μ',e1,e2,e3,e4⟩:=qhx (P:=cfg.P) (t:=t) (v:=z) (vs:=z.cells.toList) (d:=bigZ (cfg.fga t ti.zero)) (cs:=cfg.fga t ti.zero) h (λh=>by unfold bigZ at h;rw[qFJ]at h;exact h.2) (by simp) ((qcC hz2 hall).fga cfg t) (by rw[quZ];exact hnew);refine⟨v,w',C',μ',?_,e2,e3,e4⟩;simp only[Instr.alloc,Sem.run_bind,hz1,Result.andThen_ok];exact e1
theorem qxe[Lent]{cfg:Cfg}(h:Wld C μ H w){nid:Option Nat}{t ty:TypeId}{a:Operand}{x:Operand->AV}{va:Value}{r:AV}(ha:Rep C μ (x a) va)(he:evOp cfg nid (.box t a) ty x H=some (r,H')):
  Runs cfg.P (Instr.box t va) C μ H w r H':=by
 simp only[evOp]at he;split at he
 case h_2=>cases he
 rename_i cs hcs;split at he
 case h_2=>cases he
 rename_i k H1 hnew;cases he;obtain⟨vs,e1,e2,e3,e4⟩:=ha.cells hcs
 by_cases hb:∃e,cfg.bld t=some e∧cs=[.nilP,.nilS]
 ·obtain⟨e,hb1,rfl⟩:=hb;have hnew:aNew nid H (.bld t e [])=some (k,H'):=by rw[←hnew];unfold qmD;rw[hb1]
  obtain⟨c0,c1,rfl⟩:∃c0 c1,vs=[c0,c1]:=by
   match vs,e2 with
   |[a,b],_=>exact⟨a,b,rfl⟩
  have r0:=(e4 0 _ c0 rfl rfl).2;have r1:=(e4 1 _ c1 rfl rfl).2;cases r0;cases r1;exact qhy (P:=cfg.P) (t:=t) (v:=va) h (by rw[e1]) hnew
 replace hnew:aNew nid H (.rows (bigZ cs) cs.length [cs])=some (k,H'):=by
  rw[←hnew];unfold qmD;split
  ·rename_i e h1;exact absurd ⟨e,h1,rfl⟩ hb
  ·rfl
 exact qhx (P:=cfg.P) (t:=t) (v:=va) (vs:=vs) (d:=bigZ cs) h (λh=>by unfold bigZ at h;rw[qFJ]at h;exact h.2) e1 ⟨e2,e4⟩ hnew
theorem qkL[Lent]{cfg:Cfg}(hc:CfgTy cfg)(h:Wld C μ H w){nid:Option Nat}{t ty:TypeId}{len:Nat}{parts:Array (Nat×Operand)}{x:Operand->AV}{ρ:Operand->Value}(hx:∀a,Rep C μ (x a) (ρ a)){r:AV}(he:evOp cfg nid (.buildSlice t len parts) ty x H=some (r,H')):Runs cfg.P (Instr.buildSlice t len (parts.map fun(i,x)=>(i,ρ x))) C μ H w r H':=by
 simp only[evOp]at he;split at he
 case h_2=>cases he
 rename_i e ht;split at he
 case h_2=>cases he
 rename_i ei hei;split at he
 case isFalse=>cases he
 rename_i hcn;simp only[qFJ,qGj]at hcn;obtain⟨hrz,hle⟩:=hcn;split at he
 case h_2=>cases he
 rename_i rows hrows;split at he
 case h_2=>cases he
 rename_i k H1 hnew;cases he;obtain⟨_,u,_,_,hu,hd⟩:=hc.td ht;have:=vG hd;subst this;have hte:=hc.ty _ _ hei;obtain⟨h0,hzl,hza⟩:=qde hrz;obtain⟨z,hz1,hz2⟩:=qaK hte w;obtain⟨p1,p2⟩:=qn3 hx parts;obtain⟨vs',g1,g2⟩:=qki hrows (qfa (C:=C) (μ:=μ) hz2 hrz len) p1 p2;have hrl:∀(parts:List (Nat×AV)) (r0 r1:List (List AV)),qca ei.sz r0 parts=some r1->r1.length=r0.length:=by
  intro parts
  induction parts with
  |nil=>intro r0 r1 hh;simp[qca]at hh;rw[hh]
  |cons p l ih=>
   intro r0 r1 hh;rw[qca]at hh;split at hh
   ·split at hh
    ·rw[ih _ _ hh];simp
    ·cases hh
   ·cases hh
 have hrl:=hrl _ _ _ hrows;simp only[List.length_replicate]at hrl;have hg:Grew w (w.alloc (.cells vs' e)) vs' e:=Grew.alloc _ _ _;have hvs:vs'.size=rows.length*ei.sz:=by simpa using g2.1
 obtain⟨f1,f2,f3⟩:=qdm h hg hnew (by omega) (λi row hi'=>⟨(g2.2 i row hi').1,λj y hj=>by
  obtain⟨c1,v,c2,c3⟩:=(g2.2 i row hi').2 j y hj;exact⟨c1,v,by rw[←Array.getElem?_toList];exact c2,c3⟩⟩) (λh=>h)
 refine⟨_,_,C,_,?_,.ms k 0 len len _ (MI.mk4 w.heap.size 0 vs'.size ei.sz) (by unfold upd;rw[qGq rfl]) (qFH _) (λ_=>⟨rfl,?_⟩),f1,f2 _ (qFH _)⟩
 ·simp only[Instr.buildSlice,Sem.run_bind,run_underlying hu,Result.andThen_ok,qS hte];rw[qGr (by omega)];rw[Array.toArray_toList]at g1
  by_cases hl0:len*ei.sz=0
  ·simp only[qGq hl0,Sem.run_bind,Sem.run_pure,Result.andThen_ok];have hr0:∀f:Nat->Value,(Array.range (len*ei.sz)).map f= #[]:=λf=>by rw[hl0];simp
   rw[hr0]at g1⊢;rw[g1];simp[newRow]
  ·simp only[qGr hl0,Sem.run_bind,Result.andThen_ok,hz1,Sem.run_pure];rw[g1];simp[newRow]
 ·show(0+len)*ei.sz<=vs'.size;rw[hvs,hrl];simp
theorem qvt[Lent]{cfg:Cfg}(hc:CfgTy cfg)(h:Wld C μ H w){t ty:TypeId}{x r:AV}{vx:Value}(he:aLen cfg t x H=some r)(hx:Rep C μ x vx):∃v,(Builtin.len_ #[t] ty #[vx]).run cfg.P w= .ok v w∧Rep C μ r v:=by
 unfold aLen at he;split at he
 ·rename_i s ht;cases he;cases hx;obtain⟨_,u,_,_,hu,hd⟩:=hc.td ht;have:=qeM hd;subst this;exact⟨_,by simp[Builtin.len_,run_underlying hu];rfl,by simpa [goInt,ByteArray.size]using Rep.int (C:=C) (μ:=μ) .i64 s.length⟩
 ·rename_i e ht;cases he;cases hx;obtain⟨_,u,_,_,hu,hd⟩:=hc.td ht;have:=vG hd;subst this;exact⟨goInt 0,by simp[Builtin.len_,run_underlying hu],.int _ _⟩
 ·rename_i e ht;cases he;cases hx;obtain⟨_,u,_,_,hu,hd⟩:=hc.td ht;have:=vG hd;subst this;exact⟨goInt 0,by simp[Builtin.len_,run_underlying hu],.int _ _⟩
 ·rename_i e rows ht;obtain⟨_,u,_,_,hu,hd⟩:=hc.td ht;have:=vG hd;subst this;cases he;cases hx
  ·exact⟨goInt rows.length,by simp[Builtin.len_,run_underlying hu],.int _ _⟩
  ·exact⟨goInt 0,by simp[Builtin.len_,run_underlying hu],.int _ _⟩
 ·rename_i e id off len ht;cases he;obtain⟨_,u,_,_,hu,hd⟩:=hc.td ht;have:=vG hd;subst this;cases hx
  ·exact⟨goInt len,by simp[Builtin.len_,run_underlying hu],.int _ _⟩
  ·exact⟨goInt 0,by simp[Builtin.len_,run_underlying hu],.int _ _⟩
 ·rename_i e rows ht;obtain⟨_,u,_,_,hu,hd⟩:=hc.td ht;have:=vG hd;subst this;cases he;cases hx with
  |lsl _ _ h0=>
   cases h0
   ·exact⟨goInt rows.length,by simp[Builtin.len_,run_underlying hu],.int _ _⟩
   ·exact⟨goInt 0,by simp[Builtin.len_,run_underlying hu],.int _ _⟩
 ·rename_i e id rows ht;obtain⟨_,u,_,_,hu,hd⟩:=hc.td ht;have:=vG hd;subst this;cases he;cases hx with
  |rsl _ _ _ D hD h0=>
   cases h0
   ·exact⟨goInt rows.length,by simp[Builtin.len_,run_underlying hu],.int _ _⟩
   ·exact⟨goInt 0,by simp[Builtin.len_,run_underlying hu],.int _ _⟩
 ·rename_i n e ht;cases he;obtain⟨_,u,_,_,hu,hd⟩:=hc.td ht;have:=qdb hd;subst this;exact⟨goInt n,by cases vx<;>simp[Builtin.len_,run_underlying hu],.int _ _⟩
 ·rename_i k e ht;cases he;cases hx;obtain⟨_,u,_,_,hu,hd⟩:=hc.td ht;have:=qce hd;subst this;exact⟨goInt 0,by simp[Builtin.len_,run_underlying hu],.int _ _⟩
 ·rename_i k e id ht;split at he
  case h_2=>cases he
  rename_i es hid;cases he;cases hx with
  |mp _ m hm=>
   obtain⟨_,u,_,_,hu,hd⟩:=hc.td ht;have:=qce hd;subst this;obtain⟨_,_,arr,clock,h2,h3,_⟩:=h.liveM hid rfl hm;refine⟨goInt arr.size,?_,by rw[h3];exact .int _ _⟩;simp[Builtin.len_,run_underlying hu,getObj,Sem.run,h2]
 ·cases he
theorem qvu[Lent]{cfg:Cfg}(hc:CfgTy cfg){t ty:TypeId}{x r:AV}{vx:Value}(he:aCap cfg t x=some r)(hx:Rep C μ x vx):∃v,(Builtin.cap_ #[t] ty #[vx]).run cfg.P w= .ok v w∧Rep C μ r v:=by
 unfold aCap at he;split at he
 ·rename_i e n v ht;obtain⟨c,hl,rfl⟩:=qFM.1 he;obtain⟨_,u,_,_,hu,hd⟩:=hc.td ht;have:=vG hd;subst this;cases hx with
  |wr _ _ ad c' hn h0=>
   obtain rfl:=h0.lenW hl;exact⟨goInt c,by simp[Builtin.cap_,run_underlying hu],.int _ _⟩
 ·cases he
theorem qmO[Lent]{lt:Int->Int->Bool}{f:Value->Value->Sem Value}(hf:∀(k k':IntKind) (a b:Int),(f (.int k a) (.int k' b)).run P w= .ok (.int k (if lt b a then b else a)) w){x y r:AV}{vx vy:Value}(he:aMin lt [x,y]=some r)(hx:Rep C μ x vx)(hy:Rep C μ y vy):∃v,([vy].foldlM f vx).run P w= .ok v w∧Rep C μ r v:=by
 unfold aMin at he;split at he
 ·rename_i k a k' b heq;cases heq;split at he
  ·cases he;cases hx;cases hy;exact⟨_,by simp[hf],.int _ _⟩
  ·cases he
 ·cases he
variable {C C' : qk} {μ μ' : MMap} {H H' : AH} {w w' : World} {P : Program}
theorem qux{u:TypeDesc}{d:TD}(hd:tdOf u=d)(hk:d.keyed=true):(∃k,u= .int k∧d= .int k)∨(u= .string∧d= .str):=by
 cases u<;>simp_all [tdOf,TD.keyed]<;>(subst hd;simp at hk)
theorem qhi{kt:TypeId}{u:TypeDesc}{d:TD}(hu:P.underlying kt=some u)(hd:tdOf u=d)(hk:d.keyed=true)(b:Bool)(v:Value):(Instr.checkKey b 10000 kt v).run P w= .ok () w:=by
 rcases qux hd hk with⟨k,rfl,rfl⟩|⟨rfl,rfl⟩
 ·unfold Instr.checkKey;simp[run_underlying hu]
 ·unfold Instr.checkKey;simp[run_underlying hu]
theorem qj8[Lent]{u:TypeDesc}{d:TD}(hd:tdOf u=d){k k':AV}{v v':Value}(hk:Rep C μ k v)(hk':Rep C μ k' v'){b:Bool}(h:quy d k k'=some b):
  Instr.sameNow u v v'=some b∧(b=true->Instr.sameBits 10000 v' v=true):=by
 unfold quy at h;split at h
 ·rename_i ik a x b' y;split at h
  ·rename_i e;subst e;cases h;cases hk;cases hk';obtain rfl:u= .int ik:=qlh hd;refine⟨by simp[Instr.sameNow],λhb=>?_⟩;have:x=y:=by simpa using hb
   subst this;simp[Instr.sameBits]
  ·cases h
 ·rename_i a b';cases h;cases hk;cases hk';obtain rfl:u= .string:=qeM hd;have e:((⟨a.toArray⟩:ByteArray)==⟨b'.toArray⟩)=(a==b'):=by
   show(a.toArray==b'.toArray)=(a==b');simp
  refine⟨by simp only[Instr.sameNow,e],λhb=>?_⟩;have:a=b':=by simpa using hb
  subst this;unfold Instr.sameBits;show(a.toArray==a.toArray)=true;simp
 ·cases h
def qje[Lent](C:qk)(μ:MMap)(es:List (AV×AV))(arr:List MapEntry):Prop:=arr.length=es.length∧∀(i:Nat) e me,es[i]? =some e->arr[i]? =some me->Rep C μ e.1 me.key∧Rep C μ e.2 me.val
theorem zM[Lent]{u:TypeDesc}{d:TD}(hd:tdOf u=d){k:AV}{v:Value}(hk:Rep C μ k v):∀(es:List (AV×AV)) (arr:List MapEntry) (i:Nat) (r:Option (Nat×AV)),qje C μ es arr->qbM d k es i=some r ->
  match r with
  |none=>Instr.findNow u v arr i=some none
  |some (j,a)=>∃(me:MapEntry),i<=j∧arr[j - i]? =some me∧Rep C μ a me.val∧Instr.findNow u v arr i=some (some (j,me.val))∧Instr.sameBits 10000 me.key v=true
 |[],arr,i,r,he,h=>by
  obtain rfl:arr=[]:=List.length_eq_zero_iff.1 he.1;cases h;rfl
 |e::es,[],i,r,he,h=>by simp[qje]at he
 |e::es,me::arr,i,r,he,h=>by
  have h0:=he.2 0 e me rfl rfl;have ht:qje C μ es arr:=⟨by simpa using he.1,λj e' me' h1 h2=>he.2 (j+1) e' me' (by simpa using h1) (by simpa using h2)⟩;rw[qbM]at h;split at h
  ·rename_i hki;cases h;obtain⟨h1,h2⟩:=qj8 hd hk h0.1 hki;exact⟨me,qFH _,by simp,h0.2,by simp[Instr.findNow,h1],h2 rfl⟩
  ·rename_i hki;obtain⟨h1,_⟩:=qj8 hd hk h0.1 hki;have:=zM hd hk es arr (i+1) r ht h;cases r with
   |none=>
    show Instr.findNow u v (me::arr) i=some none;rw[Instr.findNow,h1];exact this
   |some q=>
    obtain⟨j,a⟩:=q;obtain⟨m',g1,g2,g3,g4,g5⟩:=this;refine⟨m',by omega,?_,g3,?_,g5⟩
    ·obtain⟨c,hc⟩:∃c,j - i=c+1:=⟨j - i - 1,by omega⟩;rw[hc,List.getElem?_cons_succ];rw[show c=j - (i+1) by omega];exact g2
    ·rw[Instr.findNow,h1];exact g4
  ·cases h
theorem qrh[Lent]{cfg:Cfg}(hc:CfgTy cfg){t:TypeId}{z:AV}(h:cfg.zeroV t=some z):∃v,(∀w,(zeroValue t).run cfg.P w= .ok v w)∧Rep C μ z v:=by
 unfold Cfg.zeroV at h;split at h
 case h_2=>cases h
 rename_i ti hti;obtain⟨v,h1,h2,h3⟩:=qxR (hc.ty _ _ hti);refine⟨v,h1,?_⟩;split at h
 ·rename_i ha;cases h;rw[ha]at h3;cases v with
  |agg cs=>
   have:=qjS (C:=C) (μ:=μ) (.agg cs);rw[h2];exact this
  |_=>simp[qhQ]at h3
 ·rename_i ha;have ha:qhQ v=false:=by rw[h3];simpa using ha
  split at h
  ·rename_i hy;cases h;have hr:=qbh (C:=C) (μ:=μ) v;have:xA v=z:=by
    rw[hy]at h2;cases v with
    |agg cs=>simp[qhQ]at ha
    |_=>simpa [Value.cells]using h2.symm
   rw[←this];exact hr
  ·cases h
theorem qr8[Lent](h:Wld C μ H w){x:AV}{vx:Value}{es:List (AV×AV)}(he:qdV H x=some es)(hx:Rep C μ x vx):
  (vx= .map none∧es=[])∨∃b arr clock,vx= .map (some b)∧w.heap[b]? =some (.map arr clock)∧qje C μ es arr.toList:=by
 unfold qdV at he;split at he
 ·cases he;cases hx;exact .inl ⟨rfl,rfl⟩
 ·rename_i id;split at he
  case h_2=>cases he
  rename_i es' hid;cases he;cases hx with
  |mp _ m hm=>
   obtain⟨_,_,arr,clock,h1,h2,h3⟩:=h.liveM hid rfl hm;exact .inr ⟨m.block,arr,clock,rfl,h1,by simpa using h2,λi e me a1 a2=>h3 i e me a1 (by simpa using a2)⟩
 ·cases he
theorem qoO[Lent]{cfg:Cfg}(hc:CfgTy cfg)(h:Wld C μ H w){t:TypeId}{x k r:AV}{ok:Bool}{vx vk:Value}(he:qaB cfg t x k ok H=some r)(hx:Rep C μ x vx)(hk:Rep C μ k vk):
  ∃v,(Instr.lookup t vx vk ok).run cfg.P w= .ok v w∧Rep C μ r v:=by
 unfold qaB at he;split at he
 case h_2=>cases he
 rename_i kt et ht;split at he
 case h_2=>cases he
 rename_i d es hkd hes;split at he
 case isFalse=>cases he
 rename_i hkey;obtain⟨_,u,_,_,hu,hdd⟩:=hc.td ht;have:=qce hdd;subst this;obtain⟨_,uk,_,_,huk,hdk⟩:=hc.td hkd;have tupR:∀{a:AV} {v:Value} (b:Bool),Rep C μ a v->Rep C μ (if ok then .tup [a,.bool b]else a) (if ok then .tuple #[v,.bool b]else v):=by
  intro a v b ha;cases ok with
  |false=>exact ha
  |true=>
   refine .tup [a,.bool b] [v,.bool b] rfl (λi a' v' h1 h2=>?_)
   match i,h1,h2 with
   |0,h1,h2=>simp at h1 h2;subst h1 h2;exact ha
   |1,h1,h2=>simp at h1 h2;subst h1 h2;exact .bool _
   |(i+2),h1,h2=>simp at h1
 have key:∀(arr:Array MapEntry),qje C μ es arr.toList ->
   (∃j u,Instr.findNow uk vk arr.toList 0=some (some (j,u))∧Rep C μ r (if ok then .tuple #[u,.bool true]else u)) ∨
   (Instr.findNow uk vk arr.toList 0=some none∧∃u,(∀w,(zeroValue et).run cfg.P w= .ok u w)∧Rep C μ r (if ok then .tuple #[u,.bool false]else u)):=by
  intro arr hr;split at he
  ·rename_i q hq;cases he;have:=zM hdk hk es arr.toList 0 _ hr hq;obtain⟨j,a⟩:=q;obtain⟨me,_,_,g3,g4,_⟩:=this;exact .inl ⟨j,me.val,g4,tupR true g3⟩
  ·rename_i hq;have:=zM hdk hk es arr.toList 0 _ hr hq;split at he
   case h_2=>cases he
   rename_i z hz;cases he;obtain⟨vz,hz1,hz2⟩:=qrh (C:=C) (μ:=μ) hc hz;exact .inr ⟨this,vz,hz1,tupR false hz2⟩
  ·cases he
 have hck:=λb=>qhi (w:=w) huk hdk hkey b vk
 rcases qr8 h hes hx with⟨rfl,rfl⟩|⟨b,arr,clock,rfl,hb,hr⟩
 ·rcases key #[] ⟨rfl,λi e me a1 _=>by simp at a1⟩with⟨j,u,g1,g2⟩|⟨g1,u,g2,g3⟩
  ·exact⟨_,by simp[Instr.findNow]at g1,g2⟩
  ·exact⟨_,by simp[Instr.lookup,run_underlying hu,hck,Instr.findKey,run_underlying huk,Instr.findNow,g2],g3⟩
 ·rcases key arr hr with⟨j,u,g1,g2⟩|⟨g1,u,g2,g3⟩
  ·exact⟨_,by simp[Instr.lookup,run_underlying hu,qbd hb,hck,Instr.findKey,run_underlying huk,g1],g2⟩
  ·exact⟨_,by simp[Instr.lookup,run_underlying hu,qbd hb,hck,Instr.findKey,run_underlying huk,g1,g2],g3⟩
theorem qgm[Lent]{cfg:Cfg}(hc:CfgTy cfg)(h:Wld C μ H w){t:TypeId}{x k v:AV}{vx vk vv:Value}(he:qba cfg t x k v H=some H')(hx:Rep C μ x vx)(hk:Rep C μ k vk)(hv:Rep C μ v vv):
  ∃w',(Instr.mapUpdate t vx vk vv).run cfg.P w= .ok () w'∧Wld C μ H' w'∧∀j,j<=H.length->Ext j C μ H w C μ H' w':=by
 unfold qba at he;split at he
 case h_2=>cases he
 rename_i kt et id ht;split at he
 case h_2=>cases he
 rename_i d d0 es hkd hid;split at he
 case isFalse=>cases he
 rename_i hkey;have hfree:=h.free.get hid;obtain⟨_,u,_,_,hu,hdd⟩:=hc.td ht;have:=qce hdd;subst this;obtain⟨_,uk,_,_,huk,hdk⟩:=hc.td hkd;have hck:=λb=>qhi (w:=w) huk hdk hkey b vk
 cases hx with
 |mp _ m hm=>
  obtain⟨_,_,arr,clock,h1,h2,h3⟩:=h.liveM hid rfl hm;have hr:qje C μ es arr.toList:=⟨by simpa using h2,λi e me a1 a2=>h3 i e me a1 (by simpa using a2)⟩;split at he
  ·rename_i q hq;cases he;have:=zM hdk hk es arr.toList 0 _ hr hq;obtain⟨j,a⟩:=q;obtain⟨me,_,g2,g3,g4,g5⟩:=this;have g2:arr[j]? =some me:=by simpa using g2
   obtain⟨p1,p2⟩:=qnh h hid hm (d0&&(k.refsLt 0&&v.refsLt 0)) (es':=es.set j (k,v)) (λhd i e a1=>by
    simp only[qFJ]at hd;rw[qF1]at a1;split at a1
    ·split at a1
     ·cases a1;exact hd.2
     ·cases a1
    ·exact hfree hd.1 i e a1) (arr:=arr.modify j λe=>{ e with key:=vk,val:=vv }) (c:=clock) (by simpa using h2) (λi e me' a1 a2=>by
    rw[qF1]at a1;rw[Array.getElem?_modify]at a2
    by_cases hij:j=i
    ·subst hij;rw[qGq rfl]at a1 a2;rw[g2]at a2;split at a1
     ·simp at a1 a2;subst a1 a2;exact⟨hk,hv⟩
     ·cases a1
    ·rw[qGr hij]at a1 a2;exact h3 i e me' a1 a2)
   refine⟨_,?_,p1,p2⟩;simp[Instr.mapUpdate,run_underlying hu,qbd h1,hck,Instr.findKey,run_underlying huk,g4,g2,Instr.keyThatStays,g5,qfq h1]
  ·rename_i hq;cases he;have:=zM hdk hk es arr.toList 0 _ hr hq;have this:Instr.findNow uk vk arr.toList 0=some none:=this;obtain⟨p1,p2⟩:=qnh h hid hm (d0&&(k.refsLt 0&&v.refsLt 0)) (es':=es++[(k,v)]) (λhd i e a1=>by
    simp only[qFJ]at hd;rw[List.getElem?_append]at a1;split at a1
    ·exact hfree hd.1 i e a1
    ·rcases hn:i - es.length with _|n
     ·rw[hn]at a1;simp at a1;subst a1;exact hd.2
     ·rw[hn]at a1;simp at a1) (arr:=arr.push { key:=vk,val:=vv,born:=clock }) (c:=clock+1) (by simp[h2]) (λi e me' a1 a2=>by
    rw[List.getElem?_append]at a1;rw[Array.getElem?_push]at a2
    by_cases hi:i<es.length
    ·rw[qGq hi]at a1;rw[qGr (by omega)]at a2;exact h3 i e me' a1 a2
    ·rw[qGr hi]at a1
     by_cases hi2:i=arr.size
     ·rw[qGq hi2]at a2;subst hi2;simp[h2]at a1 a2;subst a1 a2;exact⟨hk,hv⟩
     ·rw[qGr hi2]at a2;have:i<arr.size:=(Array.getElem?_eq_some_iff.1 a2).1;omega)
   refine⟨_,?_,p1,p2⟩;simp[Instr.mapUpdate,run_underlying hu,qbd h1,hck,Instr.findKey,run_underlying huk,this,qfq h1]
  ·cases he
theorem qoE[Lent]{cfg:Cfg}(hc:CfgTy cfg)(h:Wld C μ H w){nid:Option Nat}{t ty:TypeId}{rv:Option Operand}{x:Operand->AV}{ρ:Operand->Value}(hx:∀a,Rep C μ (x a) (ρ a)){r:AV}(he:evOp cfg nid (.makeMap t rv) ty x H=some (r,H')):
  Runs cfg.P (Instr.makeMap t (rv.map ρ)) C μ H w r H':=by
 simp only[evOp]at he;split at he
 case h_2=>cases he
 rename_i kt et b ht hb;split at he
 case h_2=>cases he
 rename_i k H1 hnew;cases he;obtain⟨_,u,_,_,hu,hdd⟩:=hc.td ht;have:=qce hdd;subst this;have hrun:(Instr.makeMap t (rv.map ρ)).run cfg.P w= .ok (.map (some w.heap.size)) (w.alloc (.map #[] 0)):=by
  cases rv with
  |none=>simp[Instr.makeMap]
  |some a=>
   have ha:=hx a;simp only at hb;split at hb
   ·rename_i ik n hxa;rw[hxa]at ha;generalize hv:ρ a=va at ha;cases ha;simp[Instr.makeMap,run_underlying hu,hv,asInt,asIntOf]
   ·cases hb
 have hnl:¬Live H μ w.heap.size:=λhl=>Nat.lt_irrefl _ (h.live_lt hl)
 have hnc:∀o,C w.heap.size o=none:=λo=>by
  cases hc:C w.heap.size o with
  |none=>rfl
  |some v=>exact absurd (h.block_lt hc) (Nat.lt_irrefl _)
 have old:∀b,b<w.heap.size->(w.alloc (.map #[] 0)).heap[b]? =w.heap[b]? :=λb hb=>by
  show(w.heap.push _)[b]? =_;rw[Array.getElem?_push,qGr (by omega)]
 have hsz:(w.alloc (.map #[] 0)).heap.size=w.heap.size+1:=by simp
 have hw':Wld C μ H (w.alloc (.map #[] 0)):=h.world (by rw[hsz];omega) (λb hb=>old b hb);obtain⟨e1,e2,e3,e4,e5⟩:=hw'.new4 (B:=w.heap.size) (b0:=0) (n0:=0) (z0:=0) hnew hnl (by rw[hsz];simp) hnc (h.lent_none (qFH _)) rfl
  ⟨#[],0,by show(w.heap.push _)[w.heap.size]? =_;simp,rfl,λi e me a1 _=>by simp at a1⟩ (λ_ i e a1=>by simp at a1)
 refine⟨_,_,C,_,hrun,.mp k (MI.mk4 w.heap.size 0 0 0) (by unfold upd;rw[qGq rfl]),e1,rfl,rfl,rfl,by rw[hsz];omega,λ_ _ _ h=>h,λid m' _ hm'=>⟨_,e2 id m' hm',.refl _⟩,λb hb hnl=>⟨old b hb,λhl=>?_,rfl⟩,e3⟩;rcases e4 b hl with hl|hl
 ·exact hnl hl
 ·omega
variable {C C' : qk} {μ μ' : MMap} {H H' : AH} {w w' : World} {P : Program}
def qBU[Lent](C:qk)(μ:MMap)(r:AV)(n:Next):Prop:=(∃v,n= .value v∧Rep C μ r v)∨(n= .skip∧r= .junk)
def qd8[Lent](P:Program)(s:Sem Next)(C:qk)(μ:MMap)(H:AH)(w:World)(a:AV)(H':AH):Prop:=
 ∃n w' C' μ',s.run P w= .ok n w'∧qBU C' μ' a n∧Wld C' μ' H' w'∧Ext H.length C μ H w C' μ' H' w'
theorem Runs.v[Lent]{s:Sem Value}{a:AV}(h:Runs P s C μ H w a H'):qd8 P (do pure (.value (←s))) C μ H w a H':=by
 obtain⟨v,w',C',μ',h1,h2,h3,h4⟩:=h;exact⟨.value v,w',C',μ',by simp[h1],.inl ⟨v,rfl,h2⟩,h3,h4⟩
theorem qd8.pure'[Lent](h:Wld C μ H w){v:Value}{a:AV}(hr:Rep C μ a v):qd8 P (pure (.value v)) C μ H w a H:=
 ⟨.value v,w,C,μ,by simp,.inl ⟨v,rfl,hr⟩,h,Ext.refl (qFH _)⟩
theorem Runs.opt[Lent](h:Wld C μ H w){s:Sem Value}{x:Option AV}{r:AV}(he:(x.map λv=>(v,H))=some (r,H'))(hr:∀r,x=some r->∃v,s.run P w= .ok v w∧Rep C μ r v):Runs P s C μ H w r H':=by
 obtain⟨y,hy,hy2⟩:=qFM.1 he;cases hy2;exact Runs.pure' h (hr _ hy)
theorem qkB[Lent]{x:Operand->AV}{ρ:Operand->Value}(hx:∀a,Rep C μ (x a) (ρ a))(l:List Operand):
  ∀(i:Nat) a v,(l.map x)[i]? =some a->(l.map ρ)[i]? =some v->Rep C μ a v:=by
 intro i a v h1 h2;obtain⟨o,ho,rfl⟩:=qw h1;obtain⟨o',ho',rfl⟩:=qw h2;rw[ho]at ho';cases ho';exact hx _
theorem qoW{α:Type}{a:Array α}{x:α}(h:a.toList=[x]):a= #[x]:=by rw[←Array.toArray_toList (xs:=a),h]
theorem quq{α:Type}{a:Array α}{x y:α}(h:a.toList=[x,y]):a= #[x,y]:=by rw[←Array.toArray_toList (xs:=a),h]
theorem map1{α β:Type}{a:Array α}{x:α}(f:α->β)(h:a.toList=[x]):a.map f= #[f x]:=by rw[qoW h];simp
theorem map2{α β:Type}{a:Array α}{x y:α}(f:α->β)(h:a.toList=[x,y]):a.map f= #[f x,f y]:=by rw[quq h];simp
theorem qoN[Lent]{cfg:Cfg}(hc:CfgTy cfg)(h:Wld C μ H w){nid:Option Nat}{c:Call}{ty:TypeId}{x:Operand->AV}{ρ:Operand->Value}(hx:∀a,Rep C μ (x a) (ρ a)){r:AV}(he:evOp cfg nid (.call c) ty x H=some (r,H')):qd8 cfg.P (do let d←resolve ρ c ty;invoke d.target d.args) C μ H w r H':=by
 obtain⟨callee,args,argTypes⟩:=c;simp only[evOp]at he;have go:∀b,callee= .builtin b->∀s:Sem Value,(∀consts vs,vs=args.map ρ->builtin b argTypes ty consts vs=(do pure (.value (←s))))->Runs cfg.P s C μ H w r H' ->
   qd8 cfg.P (do let d←resolve ρ ⟨callee,args,argTypes⟩ ty;invoke d.target d.args) C μ H w r H':=by
  intro b hb s hs hr;subst hb;have:=hr.v;obtain⟨n,w',C',μ',h1,h2⟩:=this;refine⟨n,w',C',μ',?_,h2⟩;simp only[resolve,Sem.run_bind,Sem.run_pure,Result.andThen_ok,invoke];rw[hs _ _ rfl];exact h1
 split at he
 ·rename_i a t ha ht;refine go _ rfl (Builtin.len_ argTypes ty (args.map ρ)) (λconsts vs hv=>by subst hv;rfl) (Runs.opt h he λr hr=>?_);rw[map1 _ ha,qoW ht];exact qvt hc h hr (hx a).unwr
 ·rename_i a t ha ht;refine go _ rfl (Builtin.cap_ argTypes ty (args.map ρ)) (λconsts vs hv=>by subst hv;rfl) (Runs.opt h he λr hr=>?_);rw[map1 _ ha,qoW ht];exact qvu hc hr (hx a)
 ·rename_i s a t xt ha ht;refine go _ rfl (Builtin.append_ argTypes ty (args.map ρ)) (λconsts vs hv=>by subst hv;rfl) ?_;rw[map2 _ ha,quq ht];exact qoP hc h he (hx s) (hx a)
 ·rename_i d s t xt ha ht;refine go _ rfl (Builtin.copy_ argTypes ty (args.map ρ)) (λconsts vs hv=>by subst hv;rfl) ?_;rw[map2 _ ha,quq ht];exact qsK hc h he (hx d).unwr (hx s)
 ·rename_i a t ha ht;obtain⟨H1,h1,h2⟩:=qFM.1 he;cases h2;refine go _ rfl (Builtin.clear_ argTypes ty (args.map ρ)) (λconsts vs hv=>by subst hv;rfl) ?_;rw[map1 _ ha,qoW ht];exact qrc hc h h1 (hx a)
 ·rename_i a b ha;refine go _ rfl (Builtin.min_ argTypes ty (args.map ρ)) (λconsts vs hv=>by subst hv;rfl) (Runs.opt h he λr hr=>?_);have:=qmO (P:=cfg.P) (w:=w) (f:=Builtin.min2) (λk k' a b=>by simp[Builtin.min2]) hr (hx a) (hx b);rw[map2 _ ha];exact this
 ·rename_i a b ha;refine go _ rfl (Builtin.max_ argTypes ty (args.map ρ)) (λconsts vs hv=>by subst hv;rfl) (Runs.opt h he λr hr=>?_);have:=qmO (P:=cfg.P) (w:=w) (f:=Builtin.max2) (λk k' a b=>by simp[Builtin.max2]) hr (hx a) (hx b);rw[map2 _ ha];exact this
 ·cases he
theorem qmo[Lent]{cfg:Cfg}(hc:CfgTy cfg)(h:Wld C μ H w){nid:Option Nat}{o:Oper}{x:Operand->AV}{ρ:Operand->Value}(hx:∀a,Rep C μ (x a) (ρ a)){r:AV}(he:evOp cfg nid o.op o.type x H=some (r,H')):
  qd8 cfg.P (execOp ρ o) C μ H w r H':=by
 obtain⟨dst,op,ty,pos,after,guard⟩:=o;simp only at he;cases op with
 |move a=>simp only[evOp]at he;cases he;exact .pure' h (hx a)
 |assign a=>simp only[evOp]at he;cases he;exact .pure' h (hx a)
 |pick c a b=>
  simp only[evOp]at he;split at he
  case h_2=>cases he
  rename_i t ht;have hcv:=hx c;rw[ht]at hcv;generalize hv:ρ c=vc at hcv;cases hcv;cases t
  ·cases he;refine⟨.value (ρ b),w,C,μ,?_,.inl ⟨_,rfl,hx b⟩,h,Ext.refl (qFH _)⟩;simp only[execOp,hv];simp[asBool]
  ·cases he;refine⟨.value (ρ a),w,C,μ,?_,.inl ⟨_,rfl,hx a⟩,h,Ext.refl (qFH _)⟩;simp only[execOp,hv];simp[asBool]
 |alloc t=>exact(qsH hc h he).v
 |box t a=>exact(qxe h (hx a) he).v
 |build t parts=>
  obtain⟨rfl,v,h1,h2⟩:=qsE (w:=w) hc hx he;exact(Runs.pure' h ⟨v,h1,h2⟩).v
 |buildSlice t len parts=>exact(qkL hc h hx he).v
 |load t a=>
  simp only[evOp]at he;split at he
  case h_2=>cases he
  rename_i ti hti;refine(Runs.opt h he λr hr=>?_).v;obtain⟨ad,u,h1,h2,h3⟩:=qlP h (hc.ty _ _ hti) (hx a) hr;exact⟨u,by rw[h1];exact h2,h3⟩
 |store t a v=>
  simp only[evOp]at he;split at he
  case h_2=>cases he
  rename_i n hn;obtain⟨H1,h1,h2⟩:=qFM.1 he;cases h2;obtain⟨ti,hti,rfl⟩:=hc.sz hn;obtain⟨ad,w',e1,e2,e3,e4⟩:=qru h hti (hx a) (hx v) h1;refine⟨.skip,w',C,μ,?_,.inr ⟨rfl,rfl⟩,e3,e4 _ (qFH _)⟩;have:(Instr.storeAt t (ρ a) (ρ v)).run cfg.P w= .ok () w':=by rw[e1];exact e2
  simp[execOp,this]
 |nilCheck a=>
  simp only[evOp]at he;have ha:=hx a;split at he
  ·rename_i id r off hxa;cases he;rw[hxa]at ha;generalize hv:ρ a=va at ha;cases ha with|ptr _ _ _ m hm=>
    rw[show execOp ρ ⟨dst,.nilCheck a,ty,pos,after,guard⟩=pure (.value (ρ a)) by simp only[execOp,hv],hv];exact .pure' h (.ptr _ _ _ m hm)
  ·rename_i cs off hxa;cases he;rw[hxa]at ha;generalize hv:ρ a=va at ha;cases ha with|cptr _ _ b o vals h1 h2=>
    rw[show execOp ρ ⟨dst,.nilCheck a,ty,pos,after,guard⟩=pure (.value (ρ a)) by simp only[execOp,hv],hv];exact .pure' h (.cptr _ _ b o vals h1 h2)
  ·rename_i f p q hxa;cases he;rw[hxa]at ha;generalize hv:ρ a=va at ha;cases ha with|fn _ _ _ vf vc h1 h2 h3 h4=>
    rw[show execOp ρ ⟨dst,.nilCheck a,ty,pos,after,guard⟩=pure (.value (ρ a)) by simp only[execOp,hv],hv];exact .pure' h (.fn _ _ _ vf vc h1 h2 h3 h4)
  ·rename_i id hxa;cases he;rw[hxa]at ha;generalize hv:ρ a=va at ha;cases ha with|mp _ m hm=>
    rw[show execOp ρ ⟨dst,.nilCheck a,ty,pos,after,guard⟩=pure (.value (ρ a)) by simp only[execOp,hv],hv];exact .pure' h (.mp _ m hm)
  ·rename_i id hxa;cases he;rw[hxa]at ha;generalize hv:ρ a=va at ha;cases ha with|yld _ m hm=>
    rw[show execOp ρ ⟨dst,.nilCheck a,ty,pos,after,guard⟩=pure (.value (ρ a)) by simp only[execOp,hv],hv];exact .pure' h (.yld _ m hm)
  ·cases he
 |binOp op t a b yt=>
  simp only[evOp]at he;exact(Runs.opt h he λr hr=>qvv hc a b hr (hx a) (hx b)).v
 |unOp op t a=>
  simp only[evOp]at he;exact(Runs.opt h he λr hr=>qxp hr (hx a)).v
 |convert s d a=>exact(qnB hc h he (hx a)).v
 |makeFunc f first caps=>
  simp only[evOp]at he;cases he;refine(Runs.pure' h ⟨.func f (first.map ρ) (caps.map ρ),by simp[Instr.makeFunc],?_⟩).v;have:=Rep.fn (C:=C) (μ:=μ) f (first.toList.map x) (caps.toList.map x) (first.toList.map ρ) (caps.toList.map ρ) (by simp) (by simp) (qkB hx _) (qkB hx _);have ea:∀a:Array Operand,(a.toList.map ρ).toArray=a.map ρ:=λa=>by rw[←Array.toList_map,Array.toArray_toList]
  rw[ea,ea]at this;exact this
 |makeSlice t l c=>exact(qq8 hc h he (hx l) (hx c)).v
 |slice t a lo hi mx=>
  simp only[evOp]at he;exact(Runs.opt h he λr hr=>qq7 hc h hx lo hi mx hr (hx a)).v
 |fieldAddr t a f=>
  simp only[evOp]at he;exact(Runs.opt h he λr hr=>qkQ hc hr (hx a)).v
 |field t a f=>
  simp only[evOp]at he;exact(Runs.opt h he λr hr=>qrb hc hr (hx a)).v
 |indexAddr t a i=>
  simp only[evOp]at he;exact(Runs.opt h he λr hr=>qkP hc h hr (hx a).unwr (hx i)).v
 |index t a i=>
  simp only[evOp]at he;exact(Runs.opt h he λr hr=>qra hc hr (hx a) (hx i)).v
 |extract t i=>
  simp only[evOp]at he;split at he
  case h_2=>cases he
  rename_i vs hxt;have ha:=hx t;rw[hxt]at ha;generalize hv:ρ t=va at ha;refine(Runs.opt h he λr hr=>?_).v;cases ha with
  |tup _ us hl hr'=>
   have hlt:i<us.length:=by rw[←hl];exact(qFF.1 hr).1
   exact⟨us[i],by simp[Instr.extract,hv,hlt],hr' i r _ hr (qFE hlt)⟩
 |call c=>exact qoN hc h hx he
 |makeMap t rv=>exact(qoE (ty:=ty) hc h hx he).v
 |lookup t a k ok=>
  simp only[evOp]at he;exact(Runs.opt h he λr hr=>qoO hc h hr (hx a) (hx k)).v
 |mapUpdate t m k v=>
  simp only[evOp]at he;obtain⟨H1,h1,h2⟩:=qFM.1 he;cases h2;obtain⟨w',e2,e3,e4⟩:=qgm hc h h1 (hx m) (hx k) (hx v);exact⟨.skip,w',C,μ,by simp[execOp,e2],.inr ⟨rfl,rfl⟩,e3,e4 _ (qFH _)⟩
 |insert t m k v=>
  simp only[evOp]at he;obtain⟨H1,h1,h2⟩:=qFM.1 he;cases h2;obtain⟨w',e2,e3,e4⟩:=qgm hc h h1 (hx m) (hx k) (hx v);exact⟨.skip,w',C,μ,by simp[execOp,e2],.inr ⟨rfl,rfl⟩,e3,e4 _ (qFH _)⟩
 |_=>simp only[evOp]at he;cases he
variable {C C' C1 C2 : qk} {μ μ' μ1 : MMap} {H H' H1 : AH} {w w' w1 : World} {P : Program}
theorem qqC[Lent](h:Wld C μ H w)(id:Nat):∃C',(∀b o v,C b o=some v->C' b o=some v)∧Wld C' μ (xl H id) w∧(∀k,k<=H.length->Ext k C μ H w C' μ (xl H id) w):=by
 unfold xl;split
 ·rename_i sz rs hid;exact h.freeze hid
 ·exact⟨C,λ_ _ _ h=>h,h,λk hk=>Ext.refl hk⟩
theorem qme(H:AH)(id:Nat):(xl H id).length=H.length:=by
 unfold xl;split<;>simp
theorem qb5(ids:List Nat):∀H:AH,(qV ids H).length=H.length:=by
 induction ids with
 |nil=>intro H;rfl
 |cons i l ih=>intro H;show(qV l (xl H i)).length=_;rw[ih,qme]
theorem xb[Lent]:∀(ids:List Nat) {C:qk} {H:AH},Wld C μ H w->∃C',(∀b o v,C b o=some v->C' b o=some v)∧Wld C' μ (qV ids H) w∧(∀k,k<=H.length->Ext k C μ H w C' μ (qV ids H) w)
 |[],C,H,h=>⟨C,λ_ _ _ h=>h,h,λk hk=>Ext.refl hk⟩
 |i::l,C,H,h=>by
  obtain⟨C1,a1,a2,a3⟩:=qqC h i;obtain⟨C2,b1,b2,b3⟩:=xb l a2;exact⟨C2,λb o v hh=>b1 b o v (a1 b o v hh),b2,λk hk=>(a3 k hk).trans (b3 k (by rw[qme];exact hk)) (qFH _)⟩
theorem qsq{b:ABlk}{l:AH}{i:Nat}(h:i≠0):∃l',xl (b::l) i=b::l':=by
 unfold xl;split
 ·cases i with
  |zero=>exact absurd rfl h
  |succ i=>exact⟨_,rfl⟩
 ·exact⟨l,rfl⟩
theorem qds{b:ABlk}:∀(ids:List Nat) {l:AH},qbL ids=true->∃l',qV ids (b::l)=b::l'
 |[],l,_=>⟨l,rfl⟩
 |i::ids,l,h=>by
  rw[qbL,qFJ]at h;have hi:i≠0:=by
   intro e;subst e;simp at h
  obtain⟨l1,h1⟩:=qsq (b:=b) (l:=l) hi;have:qV (i::ids) (b::l)=qV ids (xl (b::l) i):=rfl;rw[this,h1];exact qds ids h.2
theorem qst{id i sz:Nat}{d:Bool}{rs:List (List AV)}(h:H[id]? =some (.froz d sz rs)):(xl H i)[id]? =some (.froz d sz rs):=by
 unfold xl;split
 ·rename_i s r hi;rw[qF1];split
  ·rename_i e;subst e;rw[h]at hi;cases hi
  ·exact h
 ·exact h
theorem qhS{id sz:Nat}{d:Bool}{rs:List (List AV)}:∀(ids:List Nat) {H:AH},H[id]? =some (.froz d sz rs)->(qV ids H)[id]? =some (.froz d sz rs)
 |[],_,h=>h
 |_::l,_,h=>qhS l (qst h)
theorem qss{id i:Nat}:vg (xl H i) id=vg H id:=by
 unfold xl;split
 ·rename_i s r hi;unfold vg;rw[qF1]
  by_cases e:i=id
  ·subst e;have:=(qFF.1 hi).1;rw[qGq rfl,qGq this,hi]
  ·rw[qGr e]
 ·rfl
theorem qsu{id i:Nat}:xT (xl H i) id=xT H id:=by
 unfold xl;split
 ·rename_i s r hi;unfold xT;rw[qF1]
  by_cases e:i=id
  ·subst e;have:=(qFF.1 hi).1;rw[qGq rfl,qGq this,hi]
  ·rw[qGr e]
 ·rfl
theorem qsr{id sz:Nat}{rs:List (List AV)}(h:vg H id=some (sz,rs)):(xl H id)[id]? =some (.froz (xT H id) sz rs):=by
 unfold vg at h;unfold xl xT;split at h
 ·rename_i s r hi;cases h;have:=(qFF.1 hi).1;simp only[hi];rw[qF1,qGq rfl,qGq this]
 ·rename_i s r hi;cases h;simp only[hi]
 ·cases h
theorem qep{id sz:Nat}{rs:List (List AV)}:∀{ids:List Nat} {H:AH},vg H id=some (sz,rs)->id∈ids->(qV ids H)[id]? =some (.froz (xT H id) sz rs)
 |[],_,_,hi=>by cases hi
 |i::l,H,h,hi=>by
  by_cases e:id=i
  ·subst e;exact qhS l (qsr h)
  ·show(qV l (xl H i))[id]? =_;rw[←qsu (i:=i)];exact qep (by rw[qss];exact h) ((qF6.1 hi).resolve_left e)
theorem qvQ[Lent]{m:MI}{sz off len cap:Nat}{rs:List (List AV)}{a:Addr}(hf:qib C μ m sz rs)(hle:off+len<=rs.length)(hl:len<=cap)(ha:cap≠0->a=⟨m.block,m.base+off*m.sz,none⟩∧(off+cap)*m.sz<=m.size)(hfr:qQ 0 ((rs.drop off).take len)=true):
  Rep C μ (.sl ((rs.drop off).take len)) (.slice (some a) len cap):=by
 obtain⟨hsz,_,hrows⟩:=hf;have hlen:((rs.drop off).take len).length=len:=by simp;omega
 have get:∀(i:Nat) row,((rs.drop off).take len)[i]? =some row->i<len∧rs[off+i]? =some row:=λi row h=>vp h
 have addr:∀(i:Nat) row,((rs.drop off).take len)[i]? =some row->a=⟨m.block,m.base+off*m.sz,none⟩:=λi row h=>(ha (by have:=(get i row h).1;omega)).1
 have cell:∀(i j:Nat) row x,((rs.drop off).take len)[i]? =some row->row[j]? =some x->x.isCell=true∧∃v,C a.block (a.off+i*sz+j)=some v∧Rep C μ x v:=by
  intro i j row x hi hj;obtain⟨_,hr⟩:=get i row hi;obtain⟨e1,v,e2,e3⟩:=(hrows _ row hr).2 j x hj;refine⟨e1,v,?_,e3⟩;rw[addr i row hi];rw[←e2];simp only
  congr 1
  rw[hsz,Nat.add_mul];omega
 have:=Rep.sl (C:=C) (μ:=μ) ((rs.drop off).take len) a cap sz (λi j=>(C a.block (a.off+i*sz+j)).getD undef)
  (λhne=>by
   cases hx:(rs.drop off).take len with
   |nil=>exact absurd hx hne
   |cons r l=>rw[addr 0 r (by rw[hx];rfl)])
  (λi row hi=>(hrows _ row (get i row hi).2).1)
  (λi j row x hi hj=>by obtain⟨_,v,e2,_⟩:=cell i j row x hi hj;rw[e2];rfl)
  (λi j row x hi hj=>by obtain⟨_,v,e2,e3⟩:=cell i j row x hi hj;rw[e2];exact e3)
  (λi j row x hi hj=>(cell i j row x hi hj).1)
  (by rw[hlen];exact hl) hfr
 rw[hlen]at this;exact this
def xU[Lent](C:qk)(μ:MMap)(H:AH)(ids:List Nat):Prop:=∀id sz rs,id∈ids->vg H id=some (sz,rs)->(∀m,μ id=some m->qib C μ m sz rs)∧(xT H id=true->qQ 0 rs=true)
theorem xU.of[Lent]{ids:List Nat}(h:Wld C μ (qV ids H) w):xU C μ H ids:=λid sz rs hi hb=>by
 exact⟨(h.froz id _ sz rs (qep hb hi)).2,h.free.get (qep hb hi)⟩
theorem Rep.frz1[Lent]{ids:List Nat}{a:AV}{v:Value}(hf:xU C μ H ids)(h:Rep C μ a v):Rep C μ (a.frz1 ids H) v:=by
 cases a with
 |ms id off len=>
  simp only[AV.frz1];split
  ·rename_i sz rs hb;split
   ·rename_i hc;rw[qFJ,qFJ,qGj,vL,Bool.or_eq_true]at hc;obtain⟨hfr,hfr2⟩:=hf id sz rs hc.1.1 hb;cases h with
    |msN _ _=>simpa using Rep.slNil
    |ms _ _ _ cap ad m' hm' hl ha=>
     exact qvQ (hfr m' hm') hc.1.2 hl ha (hc.2.elim (λhd=>yW (z8 (hfr2 hd))) (λh=>h))
   ·exact h
  ·exact h
 |_=>exact h
theorem Rep.frzA[Lent]{ids:List Nat}{a:AV}{v:Value}(hf:xU C μ H ids)(h:Rep C μ a v):Rep C μ (a.frz ids H) v:=by
 cases a with
 |agg cs=>
  cases h with
  |agg _ vs hl hr=>
   exact .agg _ vs (by simpa using hl) (λi a v h1 h2=>by
    obtain⟨b,hb,rfl⟩:=qw h1;exact(hr i b v hb h2).frz1 hf)
 |tup cs=>
  cases h with
  |tup _ vs hl hr=>
   exact .tup _ vs (by simpa using hl) (λi a v h1 h2=>by
    obtain⟨b,hb,rfl⟩:=qw h1;exact(hr i b v hb h2).frz1 hf)
 |_=>exact Rep.frz1 hf h
theorem Rep0.rep[Lent]{D:qk}{a:AV}{v:Value}(hD:∀b o v,D b o=some v->C b o=some v)(h:Rep0 D a v):Rep C μ a v:=by
 induction h with
 |int k n=>exact .int k n
 |bool b=>exact .bool b
 |str s=>exact .str s
 |nilS=>exact .nilS
 |slNil=>exact .slNil
 |em a cap=>exact .em a cap
 |sl rows a cap sz vals hs hsz hc _ hcell hcap hfree ih=>exact .sl rows a cap sz vals hs hsz (λi j row x h1 h2=>hD _ _ _ (hc i j row x h1 h2)) ih hcell hcap hfree
def RegC(C:qk)(μ:MMap)(H:AH):Prop:=∀(id:Nat) m,H[id]? =some .reg->μ id=some m->∀b o v,m.D b o=some v->C b o=some v
open Classical in
def y5 (C:qk) (μ:MMap) (H:AH) (w:World):qk:=λb o=>
 match C b o with
 |some v=>some v
 |none=>if ∃(id:Nat) (m:MI),H[id]? =some .reg∧μ id=some m∧m.D b o≠none then w.cell? ⟨b,o,none⟩else none
theorem qk7{b o:Nat}{v:Value}(h:C b o=some v):y5 C μ H w b o=some v:=by unfold y5;rw[h]
theorem qpe(hc:∀b o v,C b o=some v->w.cell? ⟨b,o,none⟩=some v){b o:Nat}{v:Value}(h:y5 C μ H w b o=some v):w.cell? ⟨b,o,none⟩=some v:=by
 unfold y5 at h;split at h
 ·rename_i u hu;cases h;exact hc _ _ _ hu
 ·split at h
  ·exact h
  ·cases h
theorem qro[Lent](h:Wld C μ H w)(hc:∀b o v,C1 b o=some v->w.cell? ⟨b,o,none⟩=some v):RegC (y5 C1 μ H w) μ H:=by
 intro id m hi hm b o v hd;have hreg:=(h.liveM hi rfl hm).2.2;have hcell:=(hreg b o v hd).1;unfold y5;split
 ·rename_i u hu;rw[hc _ _ _ hu]at hcell;exact hcell
 ·rw[qGq ⟨id,m,hi,hm,by rw[hd];simp⟩];exact hcell
theorem qrn[Lent](h:Wld C μ H w){b:Nat}(hc:∀o v,C1 b o=some v->w.frozen? ⟨b,o,none⟩=false){o:Nat}{v:Value}(hh:y5 C1 μ H w b o=some v):w.frozen? ⟨b,o,none⟩=false:=by
 unfold y5 at hh;split at hh
 ·rename_i u hu;exact hc _ _ hu
 ·split at hh
  ·rename_i hex;obtain⟨id,m,hi,hm,hd⟩:=hex;cases hd':m.D b o with
   |none=>exact absurd hd' hd
   |some u=>exact((h.liveM hi rfl hm).2.2 b o u hd').2
  ·cases hh
theorem xU.mono[Lent]{ids:List Nat}(hC:∀b o v,C b o=some v->C' b o=some v)(h:xU C μ H ids):xU C' μ H ids:=λid sz rs hi hb=>by
 obtain⟨h1,h2⟩:=h id sz rs hi hb;refine⟨λm hm=>?_,h2⟩;obtain⟨a1,a2,a3⟩:=h1 m hm;exact⟨a1,a2,a3.mono hC (λ_ _ h=>h) (λi j row x hi hj=>by
  obtain⟨_,v,hv,_⟩:=(a3 i row hi).2 j x hj;exact(hC _ _ _ hv).trans hv.symm)⟩
theorem Rep.snap1[Lent]{ids:List Nat}(hrg:RegC C μ H)(hid:∀id,id<H.length->id∈ids){a:AV}{v:Value}(hf:xU C μ H ids)(h:Rep C μ a v):Rep C μ (a.snap1 H) v:=by
 have hlt:∀id sz rs,vg H id=some (sz,rs)->id∈ids:=by
  intro id sz rs hb;refine hid id ?_;unfold vg at hb;cases hh:H[id]? with
  |none=>rw[hh]at hb;cases hb
  |some b=>exact(qFF.1 hh).1
 cases a with
 |ms id off len=>
  simp only[AV.snap1];exact Rep.frz1 (ids:=[id]) (λid' sz rs hi hb=>hf id' sz rs (hlt _ _ _ hb) hb) h
 |ptr id r off=>
  simp only[AV.snap1];split
  ·rename_i sz rs hb;split
   ·rename_i row hrow;cases h with
    |ptr _ _ _ m hm=>
     obtain⟨hsz,_,hrows⟩:=(hf id sz rs (hlt _ _ _ hb) hb).1 m hm;have cell:∀(j:Nat) x,row[j]? =some x->∃v,C m.block (m.base+r*m.sz+j)=some v∧Rep C μ x v:=by
      intro j x hj;obtain⟨_,v,e2,e3⟩:=(hrows r row hrow).2 j x hj;refine⟨v,?_,e3⟩;rw[←e2,hsz];simp only
      congr 1;omega
     have cell:∀(j:Nat) x,(qmu row)[j]? =some x->∃v,C m.block (m.base+r*m.sz+j)=some v∧Rep C μ x v:=by
      intro j x hj;unfold qmu at hj;split at hj
      ·exact cell j x hj
      ·obtain⟨y,hy,rfl⟩:=qw hj;obtain⟨v,e2,e3⟩:=cell j y hy;refine⟨v,e2,?_⟩;unfold AV.data1;split
       ·exact e3
       ·exact .junk v
     exact .cptr (qmu row) off m.block (m.base+r*m.sz) (λj=>(C m.block (m.base+r*m.sz+j)).getD undef)
      (λj x hj=>by obtain⟨v,e2,_⟩:=cell j x hj;rw[e2];rfl) (λj x hj=>by obtain⟨v,e2,e3⟩:=cell j x hj;rw[e2];exact e3)
   ·exact h
  ·exact h
 |rsl id rows=>
  simp only[AV.snap1];split
  ·rename_i hi;cases h with
   |rsl _ _ _ D hD h0=>
    by_cases hne:rows=[]
    ·subst hne;exact h0.ofEmp
    ·obtain⟨m,hm,rfl⟩:=hD hne;exact h0.rep (hrg id m hi hm)
  ·exact h
 |_=>exact h
theorem Rep.snapA[Lent]{ids:List Nat}(hrg:RegC C μ H)(hid:∀id,id<H.length->id∈ids){a:AV}{v:Value}(hf:xU C μ H ids)(h:Rep C μ a v):Rep C μ (a.snap H) v:=by
 cases a with
 |agg cs=>
  cases h with
  |agg _ vs hl hr=>
   exact .agg _ vs (by simpa using hl) (λi a v h1 h2=>by
    obtain⟨b,hb,rfl⟩:=qw h1;exact(hr i b v hb h2).snap1 hrg hid hf)
 |fn f p q=>
  cases h with
  |fn _ _ _ vf vc hl1 hl2 h1 h2=>
   exact .fn f _ _ vf vc (by simpa using hl1) (by simpa using hl2) (λi a v e1 e2=>by
    obtain⟨b,hb,rfl⟩:=qw e1;exact(h1 i b v hb e2).snap1 hrg hid hf) (λi a v e1 e2=>by
    obtain⟨b,hb,rfl⟩:=qw e1;exact(h2 i b v hb e2).snap1 hrg hid hf)
 |_=>exact Rep.snap1 hrg hid hf h
theorem Rep.fgA[Lent]{a:AV}{v:Value}(h:Rep C μ a v):Rep C μ a.fg v:=by
 cases a with
 |agg cs=>cases h with|agg _ vs hl hr=>exact .agg _ vs (by simpa using hl) (λi a v h1 h2=>by obtain⟨b,hb,rfl⟩:=qw h1;exact(hr i b v hb h2).fg1)
 |tup cs=>cases h with|tup _ vs hl hr=>exact .tup _ vs (by simpa using hl) (λi a v h1 h2=>by obtain⟨b,hb,rfl⟩:=qw h1;exact(hr i b v hb h2).fg1)
 |_=>exact h.fg1
theorem qy.fg[Lent]{args:List AV}{vs:Array Value}(h:qy C μ args vs):qy C μ (args.map AV.fg) vs:=⟨by simpa using h.1,λi a v h1 h2=>by
 obtain⟨b,hb,rfl⟩:=qw h1;exact(h.2 i b v hb h2).fgA⟩
theorem Rep.scalar1[Lent]{a:AV}{v:Value}(hs:a.scalar1=true)(h:Rep C μ a v):Rep C' μ' a v:=by
 cases h with
 |int k n=>exact .int k n
 |bool b=>exact .bool b
 |str s=>exact .str s
 |nilS=>exact .nilS
 |nilP=>exact .nilP
 |_=>simp[AV.scalar1]at hs
theorem qjO{l:List AV}(h:qiN l=true){i:Nat}{a:AV}(ha:l[i]? =some a):a.scalar1=true:=by
 induction l generalizing i with
 |nil=>simp at ha
 |cons b l ih=>
  rw[qiN,qFJ]at h;cases i with
  |zero=>simp at ha;subst ha;exact h.1
  |succ i=>exact ih h.2 (by simpa using ha)
theorem Rep.scalarA[Lent]{a:AV}{v:Value}(hs:a.scalar=true)(h:Rep C μ a v):Rep C' μ' a v:=by
 cases a with
 |agg cs=>
  cases h with|agg _ vs hl hr=>exact .agg cs vs hl (λi a v h1 h2=>(hr i a v h1 h2).scalar1 (qjO (by simpa [AV.scalar]using hs) h1))
 |tup cs=>
  cases h with|tup _ vs hl hr=>exact .tup cs vs hl (λi a v h1 h2=>(hr i a v h1 h2).scalar1 (qjO (by simpa [AV.scalar]using hs) h1))
 |_=>exact Rep.scalar1 (by simpa [AV.scalar]using hs) h
theorem vE{b:Nat}:¬Live [] μ b:=by
 rintro⟨id,blk,m,h,_⟩;simp at h
theorem Wld.nil[Lent](h:Wld C μ H w):Wld C (λ_=>none) [] w where
 cl:=h.cl
 dom:=λid m hm=>by cases hm
 res:=λid hi=>rfl
 live:=λid blk h1=>by simp at h1
 froz:=λid d sz rs h1=>by simp at h1
 inj:=λi i' b b' m m' h1=>by simp at h1
 free:=yL.nil
 lnt:=h.lnt
theorem Wld.back[Lent](h:Wld C μ H w)(hx:Ext 0 C (λ_=>none) [] w C1 μ1 H1 w1)(h1:Wld C1 μ1 H1 w1):Wld C1 μ H w1∧∀k,k<=H.length->Ext k C μ H w C1 μ H w1:=by
 have hfr:∀b,b<w.heap.size->w1.heap[b]? =w.heap[b]? ∧C1 b=C b:=λb hb=>⟨(hx.fr b hb vE).1,(hx.fr b hb vE).2.2⟩
 refine⟨⟨h1.cl,h.dom,h.res,λid blk e1 e2=>?_,λid d sz rs e1=>?_,h.inj,h.free,h1.lnt⟩,λk hk=>⟨hx.os,hx.tape,hx.output,hx.size,hx.cl,λ_ _ _ h=>⟨_,h,.refl _⟩,λb hb hnl=>⟨(hfr b hb).1,hnl,(hfr b hb).2⟩,hk⟩⟩
 ·refine⟨(h.live id blk e1 e2).1,λm h3=>?_⟩;obtain⟨h4,h6⟩:=(h.live id blk e1 e2).2 m h3;exact⟨λb hb=>⟨Nat.lt_of_lt_of_le (h4 b hb).1 hx.size,λo=>by rw[(hfr _ (h4 b hb).1).2];exact(h4 b hb).2.1 o,(h4 b hb).2.2⟩,h6.mono hx.cl (λ_ _ h=>h) (λb hb=>(hfr _ (h4 b hb).1).1)⟩
 ·refine⟨(h.froz id d sz rs e1).1,λm e2=>?_⟩;obtain⟨e3,e4,e5⟩:=(h.froz id d sz rs e1).2 m e2;refine⟨e3,e4,e5.mono hx.cl (λ_ _ h=>h) (λi j row x hi hj=>?_)⟩;obtain⟨_,v,hv,_⟩:=(e5 i row hi).2 j x hj;exact(hx.cl _ _ _ hv).trans hv.symm
def vB(P:Program)(s:Sem Next)(w:World)(R:Value->World->Prop):Prop:=
 match s.run P w with
 | .ok (.value v) w'=>R v w'
 | .ok .skip w'=>R undef w'
 | .ok (.enter f args) w'=>CallsIn Fence.wide 0 P f args w' λe w''=>∃v,e= .returned v∧R v w''
 | .ok (.round l f t al bd) w'=>RoundIn Fence.wide 0 P l f t al bd w' λe w''=>∃v,e= .returned v∧R v w''
 |_=>False
theorem vB.mono{s:Sem Next}{R R':Value->World->Prop}(h:vB P s w R)(hr:∀v w',R v w'->R' v w'):vB P s w R':=by
 unfold vB at *;generalize s.run P w=x at *;cases x with
 |ok n w'=>
  cases n<;>simp only at h⊢<;>first|exact hr _ _ h|exact h.elim|skip
  ·exact h.mono λe w'' ⟨v,h1,h2⟩=>⟨v,h1,hr _ _ h2⟩
  ·exact h.mono λe w'' ⟨v,h1,h2⟩=>⟨v,h1,hr _ _ h2⟩
 |halt _ _=>exact h
def qvw(μ:MMap)(t:Tgt)(vs:Array Value)(s:Sem Next):Prop:=
 match t with
 | .f f=>s=callFunc f vs
 | .y id=>∃m,μ id=some m∧s=Instr.yield m.block vs
def vY[Lent](C:qk)(μ:MMap)(H:AH)(w:World)(r:AV)(H':AH)(v:Value)(w':World):Prop:=∃C' μ',Rep C' μ' r v∧Wld C' μ' H' w'∧Ext H.length C μ H w C' μ' H' w'
def qaj[Lent](cfg:Cfg)(cf:Orac):Prop:=∀t args H r H',cf t args H=some (r,H')->∀C μ w vs s,qy C μ args vs->Wld C μ H w->qvw μ t vs s->vB cfg.P s w (vY C μ H w r H')
theorem qy.free[Lent]{al:List AV}{vs:Array Value}(μ':MMap)(h:qy C μ al vs)(hr:qK 0 al=true):qy C μ' al vs:=⟨h.1,λi a v h1 h2=>(h.2 i a v h1 h2).free μ' (xJ hr h1)⟩
theorem Wld.one[Lent](h:Wld C μ H w){d0:Bool}{id sz:Nat}{rs:List (List AV)}(hfree:qQ 0 rs=true)(hi:H[id]? =some (.rows d0 sz rs)):Wld C (λk=>if k=0 then μ id else none) [.rows true sz rs] w:=by
 have only:∀(k:Nat) b,([.rows true sz rs]:AH)[k]? =some b->k=0∧b= .rows true sz rs:=λk b hk=>by
  cases k with
  |zero=>simp at hk;exact⟨rfl,hk.symm⟩
  |succ k=>simp at hk
 refine⟨h.cl,λk m hk=>?_,λk hk=>?_,λk b hk hb=>?_,λk d sz rs hk=>?_,λi i' b b' m m' e1 e2 _ _ _ _ _ _ _=>?_,λk b hk=>?_,h.lnt⟩
 ·split at hk
  ·rename_i e;subst e;simp
  ·cases hk
 ·have:=(only k _ hk).2;cases this
 ·obtain⟨rfl,rfl⟩:=only k b hk;simp only[if_true];refine⟨λhn=>?_,λm hm=>?_⟩
  ·have:=(h.live id _ hi rfl).1 hn;cases rs<;>first|rfl|cases this
  ·obtain⟨-,-,h4,h5,h6,h7⟩:=h.liveM hi rfl hm;exact⟨h.liveH hi rfl hm,h4,h5,h6.free _ hfree,h7⟩
 ·have:=(only k _ hk).2;cases this
 ·rw[(only i b e1).1,(only i' b' e2).1]
 ·obtain⟨rfl,rfl⟩:=only k b hk;exact λ_=>hfree
theorem Wld.putBack[Lent](h:Wld C μ H w){d0:Bool}{id sz:Nat}{rs rs':List (List AV)}{l:AH}(hi:H[id]? =some (.rows d0 sz rs)){C2:qk}{μ2:MMap}{w1:World}(h2:Wld C2 μ2 (.rows true sz rs'::l) w1)(hx:Ext 1 C (λk=>if k=0 then μ id else none) [.rows true sz rs] w C2 μ2 (.rows true sz rs'::l) w1):
  Wld C2 (λi=>if i=id then μ2 0 else μ i) (H.set id (.rows true sz rs')) w1∧Ext H.length C μ H w C2 (λi=>if i=id then μ2 0 else μ i) (H.set id (.rows true sz rs')) w1:=by
 have h20:(ABlk.rows true sz rs'::l)[0]? =some (.rows true sz rs'):=rfl;have hfree:qQ 0 rs'=true:=h2.free.get (id:=0) h20 rfl;have hmu:MLe μ (λi=>if i=id then μ2 0 else μ i):=by
  intro i m hm
  by_cases e:i=id
  ·subst e;simp only[↓reduceIte];exact hx.mu 0 m (by omega) (by simpa using hm)
  ·simp only[qGr e];exact⟨m,hm,.refl m⟩
 have nl:∀b,(∀m,μ id=some m->¬m.has b)->¬Live [.rows true sz rs] (λk=>if k=0 then μ id else none) b:=by
  rintro b hb ⟨i,bi,mi,e1,_,e3,e4⟩;simp only at e3;split at e3
  ·exact hb _ e3 e4
  ·cases e3
 have hlen:id<H.length:=(qFF.1 hi).1;have aux:∀(j:Nat) bj,(H.set id (.rows true sz rs'))[j]? =some bj->(j=id∧bj= .rows true sz rs')∨(j≠id∧H[j]? =some bj):=by
  intro j bj hj;rw[qF1]at hj;split at hj
  ·rename_i e;subst e
   try rw[qGq hlen]at hj
   cases hj;exact .inl ⟨rfl,rfl⟩
  ·rename_i e;exact .inr ⟨λe'=>e e'.symm,hj⟩
 have apart:∀(j:Nat) bj mj,j≠id->H[j]? =some bj->bj.live=true->μ j=some mj->∀x,mj.has x->x<w.heap.size∧¬Live [.rows true sz rs] (λk=>if k=0 then μ id else none) x:=by
  intro j bj mj hne e hb f1 x hxj;exact⟨(h.liveH e hb f1 x hxj).1,nl _ λm hm he=>hne (h.inj j id bj _ mj m e hi hb rfl f1 hm x hxj he)⟩
 refine⟨⟨h2.cl,λj mj hj=>?_,λj hj=>?_,λj b hj hb=>?_,λj d sz rs hj=>?_,λi i' b b' m1 m2 e1 e2 e3 e4 e5 e6 x e7 e8=>?_,?_,h2.lnt⟩,
  ⟨hx.os,hx.tape,hx.output,hx.size,hx.cl,λi m _ hm=>hmu i m hm,λb hb hnl=>?_,by simp⟩⟩
 ·simp only[List.length_set]
  by_cases e:j=id
  ·subst e;exact hlen
  ·rw[qGr e]at hj;exact h.dom j mj hj
 ·rcases aux j _ hj with⟨_,e⟩|⟨hne,e⟩
  ·cases e
  ·simp only[qGr hne];exact h.res j e
 ·rcases aux j b hj with⟨rfl,rfl⟩|⟨hne,e⟩
  ·simp only[if_true];refine⟨(h2.live 0 _ h20 rfl).1,λm hm=>?_⟩;obtain⟨-,-,g4,g5,g6,g7⟩:=h2.liveM h20 rfl hm;exact⟨h2.liveH h20 rfl hm,g4,g5,g6.free _ hfree,g7⟩
  ·simp only[qGr hne];refine⟨(h.live j b e hb).1,λmj f1=>?_⟩;obtain⟨f2,f4⟩:=(h.live j b e hb).2 mj f1;have q:=λx (hxj:mj.has x)=>hx.fr x (f2 x hxj).1 (apart j b mj hne e hb f1 x hxj).2
   exact⟨λx hxj=>⟨Nat.lt_of_lt_of_le (f2 x hxj).1 hx.size,λo=>by rw[(q x hxj).2.2];exact(f2 x hxj).2.1 o,(f2 x hxj).2.2⟩,f4.monoG hx.cl hmu (λx hxj=>(q x hxj).1)⟩
 ·rcases aux j _ hj with⟨_,e⟩|⟨hne,e⟩
  ·cases e
  ·simp only[qGr hne];refine⟨(h.froz j d sz rs e).1,λmj f1=>?_⟩;obtain⟨f2,f3,f4⟩:=(h.froz j d sz rs e).2 mj f1;exact⟨f2,f3,f4.monoG hx.cl hmu (λi j row x hi' hj'=>by
    obtain⟨_,v,hv,_⟩:=(f4 i row hi').2 j x hj';exact(hx.cl _ _ _ hv).trans hv.symm)⟩
 ·have cross:∀(j:Nat) bj mj m0,j≠id->H[j]? =some bj->bj.live=true->μ j=some mj->μ2 0=some m0->∀x,m0.has x->¬mj.has x:=by
   intro j bj mj m0 hne e hb f1 hm0 x hx0 hxj;obtain⟨f2,f3⟩:=apart j bj mj hne e hb f1 x hxj;exact(hx.fr x f2 f3).2.1 ⟨0,_,m0,h20,rfl,hm0,hx0⟩
  rcases aux i b e1 with⟨rfl,rfl⟩|⟨hne,e⟩<;>rcases aux i' b' e2 with⟨rfl,rfl⟩|⟨hne',e'⟩
  ·rfl
  ·rw[qGq rfl]at e5;rw[qGr hne']at e6;exact(cross i' b' m2 m1 hne' e' e4 e6 e5 x e7 e8).elim
  ·rw[qGr hne]at e5;rw[qGq rfl]at e6;exact(cross i b m1 m2 hne e e3 e5 e6 x e8 e7).elim
  ·rw[qGr hne]at e5;rw[qGr hne']at e6;exact h.inj i i' b b' m1 m2 e e' e3 e4 e5 e6 x e7 e8
 ·exact h.free.set (b:=.rows true sz rs') (λ_=>hfree)
 ·obtain⟨q1,q2,q3⟩:=hx.fr b hb (nl b λm hm e=>hnl ⟨id,_,m,hi,rfl,hm,e⟩);refine⟨q1,λhl=>?_,q3⟩;obtain⟨j,bj,mj,e1,e2,e3,e5⟩:=hl;simp only at e3;rcases aux j bj e1 with⟨rfl,rfl⟩|⟨hne,e⟩
  ·rw[qGq rfl]at e3;exact q2 ⟨0,_,mj,h20,rfl,e3,e5⟩
  ·rw[qGr hne]at e3;exact hnl ⟨j,bj,mj,e,e2,e3,e5⟩
theorem Wld.oneS [Lent] (h : Wld C μ H w) {d0 : Bool} {id sz : Nat} {rs : List (List AV)} (hin : ∀ x ∈ yZ 0 rs, x ∈ [id]) (hi : H[id]? = some (.rows d0 sz rs)) :
    Wld C (fun k => if k = 0 then μ id else none) [.rows false sz (renR (fun _ => 0) rs)] w := by
  have only : ∀ (k : Nat) b, ([.rows false sz (renR (fun _ => 0) rs)] : AH)[k]? = some b → k = 0 ∧ b = .rows false sz (renR (fun _ => 0) rs) := fun k b hk => by
    cases k with
    | zero => simp at hk; exact ⟨rfl, hk.symm⟩
    | succ k => simp at hk
  refine ⟨h.cl, fun k m hk => ?_, fun k hk => ?_, fun k b hk hb => ?_, fun k d sz rs hk => ?_, fun i i' b b' m m' e1 e2 _ _ _ _ _ _ _ => ?_, fun k b hk => ?_, h.lnt⟩
  · split at hk
    · rename_i e; subst e; simp
    · cases hk
  · have := (only k _ hk).2; cases this
  · obtain ⟨rfl, rfl⟩ := only k b hk
    simp only [if_true]
    refine ⟨fun hn => ?_, fun m hm => ?_⟩
    · have := (h.live id _ hi rfl).1 hn
      cases rs <;> first | rfl | cases this
    · obtain ⟨-, -, h4, h5, h6, h7⟩ := h.liveM hi rfl hm
      refine ⟨h.liveH hi rfl hm, h4, by rw [qdf, List.length_map]; exact h5, ?_, h7⟩
      refine h6.renm (k := 0) (L := [id]) (fun x mx hx hmx => ?_) hin
      have : x = id := by rcases hx with hx | hx; · omega
                          · simpa using hx
      subst this
      simpa using hmx
  · have := (only k _ hk).2; cases this
  · rw [(only i b e1).1, (only i' b' e2).1]
  · obtain ⟨rfl, rfl⟩ := only k b hk
    exact fun hd => by cases hd
theorem Wld.putBackS [Lent] (h : Wld C μ H w) {d0 : Bool} {id sz : Nat} {rs rs0 rs' : List (List AV)} {l : AH} (hi : H[id]? = some (.rows d0 sz rs)) {C2 : qk} {μ2 : MMap} {w1 : World} (hin : ∀ x ∈ yZ 0 rs', x ∈ [0])
    (h2 : Wld C2 μ2 (.rows false sz rs' :: l) w1) (hx : Ext 1 C (fun k => if k = 0 then μ id else none) [.rows false sz rs0] w C2 μ2 (.rows false sz rs' :: l) w1) :
    Wld C2 (fun i => if i = id then μ2 0 else μ i) (H.set id (.rows false sz (renR (fun _ => id) rs'))) w1 ∧ Ext H.length C μ H w C2 (fun i => if i = id then μ2 0 else μ i) (H.set id (.rows false sz (renR (fun _ => id) rs'))) w1 := by
  have h20 : (ABlk.rows false sz rs' :: l)[0]? = some (.rows false sz rs') := rfl
  have hmu : MLe μ (fun i => if i = id then μ2 0 else μ i) := by
    intro i m hm
    by_cases e : i = id
    · subst e; simp only [↓reduceIte]; exact hx.mu 0 m (by omega) (by simpa using hm)
    · simp only [qGr e]; exact ⟨m, hm, .refl m⟩
  have nl : ∀ b, (∀ m, μ id = some m → ¬ m.has b) → ¬ Live [.rows false sz rs0] (fun k => if k = 0 then μ id else none) b := by
    rintro b hb ⟨i, bi, mi, e1, _, e3, e4⟩
    simp only at e3
    split at e3
    · exact hb _ e3 e4
    · cases e3
  have hlen : id < H.length := (qFF.1 hi).1
  have aux : ∀ (j : Nat) bj, (H.set id (.rows false sz (renR (fun _ => id) rs')))[j]? = some bj → (j = id ∧ bj = .rows false sz (renR (fun _ => id) rs')) ∨ (j ≠ id ∧ H[j]? = some bj) := by
    intro j bj hj
    rw [qF1] at hj
    split at hj
    · rename_i e; subst e
      try rw [qGq hlen] at hj
      cases hj; exact .inl ⟨rfl, rfl⟩
    · rename_i e; exact .inr ⟨fun e' => e e'.symm, hj⟩
  have apart : ∀ (j : Nat) bj mj, j ≠ id → H[j]? = some bj → bj.live = true → μ j = some mj → ∀ x, mj.has x → x < w.heap.size ∧ ¬ Live [.rows false sz rs0] (fun k => if k = 0 then μ id else none) x := by
    intro j bj mj hne e hb f1 x hxj
    exact ⟨(h.liveH e hb f1 x hxj).1, nl _ fun m hm he => hne (h.inj j id bj _ mj m e hi hb rfl f1 hm x hxj he)⟩
  refine ⟨⟨h2.cl, fun j mj hj => ?_, fun j hj => ?_, fun j b hj hb => ?_, fun j d sz rs hj => ?_, fun i i' b b' m1 m2 e1 e2 e3 e4 e5 e6 x e7 e8 => ?_, ?_, h2.lnt⟩,
    ⟨hx.os, hx.tape, hx.output, hx.size, hx.cl, fun i m _ hm => hmu i m hm, fun b hb hnl => ?_, by simp⟩⟩
  · simp only [List.length_set]
    by_cases e : j = id
    · subst e; exact hlen
    · rw [qGr e] at hj; exact h.dom j mj hj
  · rcases aux j _ hj with ⟨_, e⟩ | ⟨hne, e⟩
    · cases e
    · simp only [qGr hne]; exact h.res j e
  · rcases aux j b hj with ⟨rfl, rfl⟩ | ⟨hne, e⟩
    · simp only [if_true]
      refine ⟨fun hn => ?_, fun m hm => ?_⟩
      · have := (h2.live 0 _ h20 rfl).1 hn
        cases rs' <;> first | rfl | cases this
      · obtain ⟨-, -, g4, g5, g6, g7⟩ := h2.liveM h20 rfl hm
        refine ⟨h2.liveH h20 rfl hm, g4, by rw [qdf, List.length_map]; exact g5, ?_, g7⟩
        refine g6.renm (k := 0) (L := [0]) (fun x mx hx hmx => ?_) hin
        have : x = 0 := by rcases hx with hx | hx; · omega
                           · simpa using hx
        subst this
        simpa using hmx
    · simp only [qGr hne]
      refine ⟨(h.live j b e hb).1, fun mj f1 => ?_⟩
      obtain ⟨f2, f4⟩ := (h.live j b e hb).2 mj f1
      have q := fun x (hxj : mj.has x) => hx.fr x (f2 x hxj).1 (apart j b mj hne e hb f1 x hxj).2
      exact ⟨fun x hxj => ⟨Nat.lt_of_lt_of_le (f2 x hxj).1 hx.size, fun o => by rw [(q x hxj).2.2]; exact (f2 x hxj).2.1 o, (f2 x hxj).2.2⟩, f4.monoG hx.cl hmu (fun x hxj => (q x hxj).1)⟩
  · rcases aux j _ hj with ⟨_, e⟩ | ⟨hne, e⟩
    · cases e
    · simp only [qGr hne]
      refine ⟨(h.froz j d sz rs e).1, fun mj f1 => ?_⟩
      obtain ⟨f2, f3, f4⟩ := (h.froz j d sz rs e).2 mj f1
      exact ⟨f2, f3, f4.monoG hx.cl hmu (fun i j row x hi' hj' => by
        obtain ⟨_, v, hv, _⟩ := (f4 i row hi').2 j x hj'
        exact (hx.cl _ _ _ hv).trans hv.symm)⟩
  · have cross : ∀ (j : Nat) bj mj m0, j ≠ id → H[j]? = some bj → bj.live = true → μ j = some mj → μ2 0 = some m0 → ∀ x, m0.has x → ¬ mj.has x := by
      intro j bj mj m0 hne e hb f1 hm0 x hx0 hxj
      obtain ⟨f2, f3⟩ := apart j bj mj hne e hb f1 x hxj
      exact (hx.fr x f2 f3).2.1 ⟨0, _, m0, h20, rfl, hm0, hx0⟩
    rcases aux i b e1 with ⟨rfl, rfl⟩ | ⟨hne, e⟩ <;> rcases aux i' b' e2 with ⟨rfl, rfl⟩ | ⟨hne', e'⟩
    · rfl
    · rw [qGq rfl] at e5; rw [qGr hne'] at e6
      exact (cross i' b' m2 m1 hne' e' e4 e6 e5 x e7 e8).elim
    · rw [qGr hne] at e5; rw [qGq rfl] at e6
      exact (cross i b m1 m2 hne e e3 e5 e6 x e8 e7).elim
    · rw [qGr hne] at e5; rw [qGr hne'] at e6
      exact h.inj i i' b b' m1 m2 e e' e3 e4 e5 e6 x e7 e8
  · exact h.free.set (b := .rows false sz (renR (fun _ => id) rs')) (fun hd => by cases hd)
  · obtain ⟨q1, q2, q3⟩ := hx.fr b hb (nl b fun m hm e => hnl ⟨id, _, m, hi, rfl, hm, e⟩)
    refine ⟨q1, fun hl => ?_, q3⟩
    obtain ⟨j, bj, mj, e1, e2, e3, e5⟩ := hl
    simp only at e3
    rcases aux j bj e1 with ⟨rfl, rfl⟩ | ⟨hne, e⟩
    · rw [qGq rfl] at e3
      exact q2 ⟨0, _, mj, h20, rfl, e3, e5⟩
    · rw [qGr hne] at e3
      exact hnl ⟨j, bj, mj, e, e2, e3, e5⟩
theorem qj0[Lent](h:Wld C μ H w){C2:qk}{μ2:MMap}{w1:World}{G:AH}(e2:Wld C2 μ2 G w1)(e3:Ext 0 C (λ_=>none) [] w C2 μ2 G w1){nid:Option Nat}{a r:AV}{H':AH}{v:Value}(e1:Rep C2 μ2 a v)(hi:za nid G a H=some (r,H')):∃μ',Rep C2 μ' r v∧Wld C2 μ' H' w1∧Ext H.length C μ H w C2 μ' H' w1:=by
 obtain⟨b1,b2⟩:=h.back e3 e2;unfold za at hi;split at hi
 ·rename_i id off len;split at hi
  case h_2=>cases hi
  rename_i d sz rs hid;split at hi
  case isFalse=>cases hi
  rename_i hrr;have hrr:qQ 0 rs=true:=by
   rw[Bool.or_eq_true]at hrr;exact hrr.elim (λhd=>e2.free.get hid hd) (λh=>h)
  split at hi
  case h_2=>cases hi
  rename_i k H2 hnew;cases hi;have b3:=b2 _ (qFH _);cases hm:μ2 id with
  |none=>
   have hv:=(e2.live id _ hid rfl).1 hm;obtain⟨n1,n2⟩:=b1.newV hnew rfl (by cases rs<;>first|rfl|cases hv) (λ_=>hrr);cases e1 with
   |msN _ _=>exact⟨μ,.msN _ _,n1,b3.trans (n2 _ (qFH _)) (qFH _)⟩
   |ms _ _ _ cap ad m' hm' hl had=>rw[hm]at hm';cases hm'
  |some m=>
  obtain⟨hlt,hc,hblk⟩:=e2.liveM hid rfl hm;have hge:∀x,m.has x->¬x<w.heap.size:=λx hx hb=>(e3.fr _ hb vE).2.1 ⟨id,_,m,hid,rfl,hm,hx⟩
  have hnl:∀x,m.has x->¬Live H μ x:=λx hx hl=>hge x hx (h.live_lt hl)
  have hlv:=e2.liveH hid rfl hm;obtain⟨n1,n2,n3,n4,n5⟩:=b1.new hnew hnl (λx hx=>(hlv x hx).1) (λx hx=>(hlv x hx).2.1) (λx hx=>(hlv x hx).2.2) rfl (by
   obtain⟨c1,c2,c3,c4⟩:=hblk;exact⟨c1,c2,λi row hi=>⟨(c3 i row hi).1,λj x hj=>by
    obtain⟨d1,u,d2,d3⟩:=(c3 i row hi).2 j x hj;exact⟨d1,u,d2,d3.free _ (xJ (zV hrr hi) hj)⟩⟩,c4⟩) (λ_=>hrr)
  have fin:∀{v:Value},Rep C2 (upd μ k m) (.ms k off len) v->∃μ',Rep C2 μ' (.ms k off len) v∧Wld C2 μ' H' w1∧Ext H.length C μ H w C2 μ' H' w1:=fun{v} hrv=>by
   refine⟨upd μ k m,hrv,n1,⟨b3.os,b3.tape,b3.output,b3.size,b3.cl,λid m' _ hm'=>⟨_,n2 id m' hm',.refl _⟩,λb hb hnl'=>?_,n3⟩⟩;obtain⟨f1,f2,f3⟩:=b3.fr b hb hnl';refine⟨f1,λhl=>?_,f3⟩;rcases n4 b hl with hl|hl
   ·exact hnl' hl
   ·exact hge _ hl hb
  cases e1 with
  |msN _ _=>exact fin (.msN _ _)
  |ms _ _ _ cap ad m' hm' hl had=>
   rw[hm]at hm';cases hm';exact fin (.ms k off len cap ad m (by unfold upd;rw[qGq rfl]) hl had)
 ·split at hi
  ·rename_i hrf;cases hi;exact⟨μ,e1.free μ hrf,b1,b2 _ (qFH _)⟩
  ·cases hi
theorem qug[Lent](h:Wld C μ H w){C2:qk}{μ2:MMap}{w1:World}{G:AH}(e2:Wld C2 μ2 G w1)(e3:Ext 0 C (λ_=>none) [] w C2 μ2 G w1){nid:Option Nat}{a r:AV}{H':AH}{v:Value}(e1:Rep C2 μ2 a v)(hi:za nid G a H=some (r,H')):vY C μ H w r H' v w1:=⟨C2,qj0 h e2 e3 e1 hi⟩
theorem qpM[Lent](h:Wld C μ H w){C2:qk}{μ2:MMap}{w1:World}{G:AH}(e2:Wld C2 μ2 G w1)(e3:Ext 0 C (λ_=>none) [] w C2 μ2 G w1){nid:Option Nat}{c:AV}{rows:List (List AV)}{H':AH}{v:Value}{i:Nat}(e1:Rep C2 μ2 c v)(hc:qpN G c=some rows)(hn:aNew nid H .reg=some (i,H')):∃μ',Wld C2 μ' H' w1∧Rep C2 μ' (.rsl i rows) v∧Ext H.length C μ H w C2 μ' H' w1:=by
 obtain⟨b1,b2⟩:=h.back e3 e2;have b3:=b2 _ (qFH _);have empty:∀{D:qk},Rep0 D (.sl []) v->∃μ',Wld C2 μ' H' w1∧Rep C2 μ' (.rsl i []) v∧Ext H.length C μ H w C2 μ' H' w1:=fun{D} h0=>by
  obtain⟨n1,n2⟩:=b1.newV hn rfl rfl trivial;exact⟨μ,n1,.rsl i [] v D (λhne=>absurd rfl hne) h0,b3.trans (n2 _ (qFH _)) (qFH _)⟩
 unfold qpN at hc;split at hc
 ·rename_i id rows';split at hc
  ·rename_i hid;cases hc;cases e1 with
   |rsl _ _ _ D hD h0=>
    by_cases hne:rows=[]
    ·subst hne;exact empty h0
    ·obtain⟨m,hm,rfl⟩:=hD hne;have hlv:=e2.liveH hid rfl hm;have hge:∀x,m.has x->¬x<w.heap.size:=λx hx hb=>(e3.fr _ hb vE).2.1 ⟨id,_,m,hid,rfl,hm,hx⟩
     have hnl:∀x,m.has x->¬Live H μ x:=λx hx hl=>hge x hx (h.live_lt hl)
     obtain⟨n1,n2,n3,n4,n5⟩:=b1.new hn hnl (λx hx=>(hlv x hx).1) (λx hx=>(hlv x hx).2.1) (λx hx=>(hlv x hx).2.2) rfl (e2.liveM hid rfl hm).2.2;refine⟨upd μ i m,n1,.rsl i rows v m.D (λ_=>⟨m,by unfold upd;rw[qGq rfl],rfl⟩) h0,⟨b3.os,b3.tape,b3.output,b3.size,b3.cl,λid m' _ hm'=>⟨_,n2 id m' hm',.refl _⟩,λb hb hnl'=>?_,n3⟩⟩;obtain⟨f1,f2,f3⟩:=b3.fr b hb hnl';refine⟨f1,λhl=>?_,f3⟩;rcases n4 b hl with hl|hl
     ·exact hnl' hl
     ·exact hge _ hl hb
  ·cases hc
 ·cases hc;exact empty e1.toEmp
 ·cases hc;cases e1 with
  |nilS=>exact empty (D:=λ_ _=>none) .slNil
 ·cases hc;cases e1 with
  |em a cap=>exact empty (D:=λ_ _=>none) (.sl [] a cap 0 (λ_ _=>undef) (λh=>absurd rfl h) (λi row h=>by simp at h) (λi j row x h=>by simp at h) (λi j row x h=>by simp at h) (λi j row x h=>by simp at h) (Nat.zero_le _) rfl)
 ·cases hc
theorem Rep.plain[Lent]{a:AV}{v:Value}(hp:a.plain=true)(h:Rep C μ a v):Rep C' μ' a v:=by
 cases a<;>simp[AV.plain]at hp
 ·cases h;exact .int _ _
 ·cases h;exact .bool _
theorem qn1{a:AV}(i:Nat)(hp:a.plain=true):a.rgA i=a:=by cases a<;>simp[AV.plain]at hp<;>rfl
theorem qt6{l:List AV}(h:qlB l=true){i:Nat}{a:AV}(ha:l[i]? =some a):a.plain=true:=by
 induction l generalizing i with
 |nil=>simp at ha
 |cons b l ih=>
  rw[qlB,qFJ]at h;cases i with
  |zero=>simp at ha;subst ha;exact h.1
  |succ i=>exact ih h.2 (by simpa using ha)
theorem qlq[Lent](h:Wld C μ H w){C2:qk}{μ2:MMap}{w1:World}{G:AH}(e2:Wld C2 μ2 G w1)(e3:Ext 0 C (λ_=>none) [] w C2 μ2 G w1){nid:Option Nat}{a X:AV}{H':AH}{v:Value}{i:Nat}(e1:Rep C2 μ2 a v)(hc:rgTm G a=some X)(hn:aNew nid H .reg=some (i,H')):∃μ',Wld C2 μ' H' w1∧Rep C2 μ' (X.rgA i) v∧Ext H.length C μ H w C2 μ' H' w1:=by
 unfold rgTm at hc;split at hc
 case h_2=>cases hc
 rename_i k n s c;obtain⟨rows,hr,rfl⟩:=qFM.1 hc;cases e1 with
 |agg _ us hl hh=>
  match us,hl,hh with
  |[u0,u1,u2,u3],_,hh=>
   obtain⟨μ',f1,f2,f3⟩:=qpM h e2 e3 (hh 3 _ _ rfl rfl) hr hn;have q0:=hh 0 _ _ rfl rfl;have q1:=hh 1 _ _ rfl rfl;have q2:=hh 2 _ _ rfl rfl;refine⟨μ',f1,?_,f3⟩;refine Rep.agg _ [u0,u1,u2,u3] rfl (λj a v h1 h2=>?_)
   match j,h1,h2 with
   |0,h1,h2=>cases h1;cases h2;exact q0.plain rfl
   |1,h1,h2=>cases h1;cases h2;exact q1.plain rfl
   |2,h1,h2=>cases h1;cases h2;cases q2;exact .str _
   |3,h1,h2=>cases h1;cases h2;exact f2
   |j+4,h1,h2=>simp at h1
theorem qn0[Lent](h:Wld C μ H w){C2:qk}{μ2:MMap}{w1:World}{G:AH}(e2:Wld C2 μ2 G w1)(e3:Ext 0 C (λ_=>none) [] w C2 μ2 G w1){nid:Option Nat}{H':AH}{i:Nat}(hn:aNew nid H .reg=some (i,H')):
  ∀(l:List AV) {q:List AV} {us:List Value},rgL G l=some q->l.length=us.length->(∀(j:Nat) a v,l[j]? =some a->us[j]? =some v->Rep C2 μ2 a v) ->
  ∃μ',Wld C2 μ' H' w1∧q.length=us.length∧(∀(j:Nat) a v,(q.map (AV.rgA i))[j]? =some a->us[j]? =some v->Rep C2 μ' a v)∧Ext H.length C μ H w C2 μ' H' w1
 |[],q,us,hc,_,_=>by cases hc
 |a::l,q,[],hc,hl,_=>by simp at hl
 |a::l,q,u::us,hc,hl,hh=>by
  rw[rgL]at hc;have h0:=hh 0 a u rfl rfl;have ht:∀(j:Nat) a v,l[j]? =some a->us[j]? =some v->Rep C2 μ2 a v:=λj a v h1 h2=>hh (j+1) a v (by simpa using h1) (by simpa using h2)
  split at hc
  ·rename_i hp;obtain⟨q',hq,rfl⟩:=qFM.1 hc;obtain⟨μ',f1,f2,f3,f4⟩:=qn0 h e2 e3 hn l hq (by simpa using hl) ht;refine⟨μ',f1,by simpa using f2,λj x v h1 h2=>?_,f4⟩;cases j with
   |zero=>simp at h1 h2;subst h1 h2;rw[qn1 i hp];exact h0.plain hp
   |succ j=>exact f3 j x v (by simpa using h1) (by simpa using h2)
  ·split at hc
   case isFalse=>cases hc
   rename_i hp;obtain⟨X,hX,rfl⟩:=qFM.1 hc;obtain⟨μ',f1,f2,f3⟩:=qlq h e2 e3 h0 hX hn;refine⟨μ',f1,by simpa using hl,λj x v h1 h2=>?_,f3⟩;cases j with
   |zero=>simp at h1 h2;subst h1 h2;exact f2
   |succ j=>
    simp only[List.map_cons,List.getElem?_cons_succ]at h1 h2;obtain⟨y,hy,rfl⟩:=qw h1;have:=qt6 hp hy;rw[qn1 i this];exact(ht j y v hy h2).plain this
theorem qrF[Lent](h:Wld C μ H w){C2:qk}{μ2:MMap}{w1:World}{G:AH}(e2:Wld C2 μ2 G w1)(e3:Ext 0 C (λ_=>none) [] w C2 μ2 G w1){nid:Option Nat}{a V:AV}{H':AH}{v:Value}{i:Nat}(e1:Rep C2 μ2 a v)(hc:qtP G a=some V)(hn:aNew nid H .reg=some (i,H')):vY C μ H w (rgIn i V) H' v w1:=by
 unfold qtP at hc;split at hc
 ·obtain⟨q,hq,rfl⟩:=qFM.1 hc;cases e1 with
  |tup _ us hl hh=>
   obtain⟨μ',f1,f2,f3,f4⟩:=qn0 h e2 e3 hn _ hq hl hh;refine⟨C2,μ',?_,f1,f4⟩;exact Rep.tup _ us (by simpa using f2) f3
 ·obtain⟨μ',f1,f2,f3⟩:=qlq h e2 e3 e1 hc hn;have:rgIn i V=V.rgA i:=by
   unfold rgTm at hc;split at hc
   ·obtain⟨rows,_,rfl⟩:=qFM.1 hc;rfl
   ·cases hc
  rw[this];exact⟨C2,μ',f2,f1,f3⟩
theorem qa0{g:AV->Option AV}:∀{l q:List AV},datL g l=some q->q.length=l.length∧∀(i:Nat) a,l[i]? =some a->∃x,g a=some x∧q[i]? =some x
 |[],q,h=>by cases h;exact⟨rfl,λi a hi=>by simp at hi⟩
 |a::l,q,h=>by
  rw[datL]at h;split at h
  ·rename_i x q' hx hq;cases h;obtain⟨h1,h2⟩:=qa0 hq;refine⟨by simp[h1],λi b hi=>?_⟩;cases i with
   |zero=>simp at hi;subst hi;exact⟨x,hx,rfl⟩
   |succ i=>exact h2 i b (by simpa using hi)
  ·cases h
theorem qc0{g:AV->Option AV}{l q:List AV}(h:datL g l=some q){i:Nat}{x:AV}(hi:q[i]? =some x):∃a,l[i]? =some a∧g a=some x:=by
 obtain⟨h1,h2⟩:=qa0 h;have hl:i<l.length:=by rw[←h1];exact(qFF.1 hi).1
 obtain⟨y,hy,hq⟩:=h2 i _ (qFE hl);rw[hi]at hq;cases hq;exact⟨_,qFE hl,hy⟩
theorem qmx[Lent]{C':qk}{i:Nat}{a x:AV}{v:Value}(hm:∀id∈a.rgId,∀m,μ id=some m->μ' i=some m)(hr:Rep C μ a v)(h:a.dat0=some x):Rep C' μ' (x.regn i) v:=by
 unfold AV.dat0 at h;split at h
 ·cases h;cases hr;exact .int _ _
 ·cases h;cases hr;exact .bool _
 ·cases h;cases hr;exact .str _
 ·rename_i id rows;cases h;cases hr with
  |rsl _ _ _ D hD h0=>
   exact .rsl i rows v D (λhne=>by
    obtain⟨m,h1,h2⟩:=hD hne;exact⟨m,hm id (by simp[AV.rgId]) m h1,h2⟩) h0
 ·cases h;exact .rsl i [] v _ (λhne=>absurd rfl hne) hr.toEmp
 ·cases h;cases hr;exact .rsl i [] _ (λ_ _=>none) (λhne=>absurd rfl hne) .slNil
 ·cases h;cases hr with|em a cap=>exact .rsl i [] _ (λ_ _=>none) (λhne=>absurd rfl hne) (.sl [] a cap 0 (λ_ _=>undef) (λh=>absurd rfl h) (λi row h=>by simp at h) (λi j row x h=>by simp at h) (λi j row x h=>by simp at h) (λi j row x h=>by simp at h) (Nat.zero_le _) rfl)
 ·cases h
theorem qyY{a x:AV}{i:Nat}(h:a.dat0=some x):x.rgA i=x.regn i:=by
 unfold AV.dat0 at h;split at h<;>first|(cases h;rfl)|cases h
theorem qmw[Lent]{C':qk}{i:Nat}{a x:AV}{v:Value}(hm:∀id∈a.rgId1,∀m,μ id=some m->μ' i=some m)(hr:Rep C μ a v)(h:a.dat1=some x):Rep C' μ' (x.rgA i) v:=by
 unfold AV.dat1 at h;split at h
 ·rename_i cs;obtain⟨q,hq,rfl⟩:=qFM.1 h;obtain⟨hl,hg⟩:=qa0 hq;cases hr with
  |agg _ us hlu hh=>
   refine Rep.agg _ us (by simp[hl,hlu]) (λj y u h1 h2=>?_);obtain⟨z,hz,rfl⟩:=qw h1;obtain⟨a,ha,hax⟩:=qc0 hq hz;exact qmx (λid hid=>hm id (List.mem_flatMap.2 ⟨a,qFK ha,hid⟩)) (hh j a u ha h2) hax
 ·rename_i hna;rw[qyY h];have he:a.rgId1=a.rgId:=by cases a<;>first|rfl|exact absurd rfl (hna _)
  rw[he]at hm;exact qmx hm hr h
theorem qw1{a x:AV}{i:Nat}(h:a.dat1=some x):rgIn i x=x.rgA i:=by
 unfold AV.dat1 at h;split at h
 ·obtain⟨q,hq,rfl⟩:=qFM.1 h;rfl
 ·unfold AV.dat0 at h;split at h<;>first|(cases h;rfl)|cases h
theorem qmv[Lent]{C':qk}{i:Nat}{a x:AV}{v:Value}(hm:∀id∈a.rgId2,∀m,μ id=some m->μ' i=some m)(hr:Rep C μ a v)(h:a.dat2=some x):Rep C' μ' (rgIn i x) v:=by
 unfold AV.dat2 at h;split at h
 ·rename_i cs;obtain⟨q,hq,rfl⟩:=qFM.1 h;obtain⟨hl,hg⟩:=qa0 hq;cases hr with
  |tup _ us hlu hh=>
   refine Rep.tup _ us (by simp[hl,hlu]) (λj y u h1 h2=>?_);obtain⟨z,hz,rfl⟩:=qw h1;obtain⟨a,ha,hax⟩:=qc0 hq hz;exact qmw (λid hid=>hm id (List.mem_flatMap.2 ⟨a,qFK ha,hid⟩)) (hh j a u ha h2) hax
 ·rename_i hna;rw[qw1 h];have he:a.rgId2=a.rgId1:=by cases a<;>first|rfl|exact absurd rfl (hna _)
  rw[he]at hm;exact qmw hm hr h
theorem qrG[Lent](h:Wld C μ H w){C2:qk}{μ2:MMap}{w1:World}{G:AH}(e2:Wld C2 μ2 G w1)(e3:Ext 0 C (λ_=>none) [] w C2 μ2 G w1){nid:Option Nat}{a V:AV}{H':AH}{v:Value}{i:Nat}(e1:Rep C2 μ2 a v)(hc:qtQ G a=some V)(hn:aNew nid H .reg=some (i,H')):vY C μ H w (rgIn i V) H' v w1:=by
 obtain⟨b1,b2⟩:=h.back e3 e2;have b3:=b2 _ (qFH _);have vac:(∀id∈a.rgId2,μ2 id=none)->a.dat2=some V->vY C μ H w (rgIn i V) H' v w1:=λhno hd=>by
  obtain⟨n1,n2⟩:=b1.newV hn rfl rfl trivial;exact⟨C2,μ,qmv (λid hid m hm=>by rw[hno id hid]at hm;cases hm) e1 hd,n1,b3.trans (n2 _ (qFH _)) (qFH _)⟩
 unfold qtQ at hc;split at hc
 ·rename_i hids;exact vac (λid hid=>by rw[hids]at hid;cases hid) hc
 ·rename_i id l hids;split at hc
  case h_2=>cases hc
  rename_i hid;split at hc
  case isFalse=>cases hc
  rename_i hall;have hin:∀x∈a.rgId2,x=id:=by
   rw[hids];intro x hx;rcases qF6.1 hx with rfl|hx
   ·rfl
   ·simpa using (ze.1 hall) x hx
  cases hm:μ2 id with
  |none=>exact vac (λx hx=>by rw[hin x hx];exact hm) hc
  |some m=>
   have hlv:=e2.liveH hid rfl hm;have hge:∀x,m.has x->¬x<w.heap.size:=λx hx hb=>(e3.fr _ hb vE).2.1 ⟨id,_,m,hid,rfl,hm,hx⟩
   have hnl:∀x,m.has x->¬Live H μ x:=λx hx hl=>hge x hx (h.live_lt hl)
   obtain⟨n1,n2,n3,n4,n5⟩:=b1.new hn hnl (λx hx=>(hlv x hx).1) (λx hx=>(hlv x hx).2.1) (λx hx=>(hlv x hx).2.2) rfl (e2.liveM hid rfl hm).2.2;refine⟨C2,upd μ i m,qmv (λx hx m' hm'=>?_) e1 hc,n1,⟨b3.os,b3.tape,b3.output,b3.size,b3.cl,λid m' _ hm'=>⟨_,n2 id m' hm',.refl _⟩,λb hb hnl'=>?_,n3⟩⟩
   ·rw[hin x hx,hm]at hm';cases hm';unfold upd;rw[qGq rfl]
   ·obtain⟨f1,f2,f3⟩:=b3.fr b hb hnl';refine⟨f1,λhl=>?_,f3⟩;rcases n4 b hl with hl|hl
    ·exact hnl' hl
    ·exact hge _ hl hb
theorem qpL[Lent](h:Wld C μ H w){C2:qk}{μ2:MMap}{w1:World}{G:AH}(e2:Wld C2 μ2 G w1)(e3:Ext 0 C (λ_=>none) [] w C2 μ2 G w1){nid:Option Nat}{a V:AV}{H':AH}{v:Value}{i:Nat}(e1:Rep C2 μ2 a v)(hc:qhm G a=some V)(hn:aNew nid H .reg=some (i,H')):vY C μ H w (rgIn i V) H' v w1:=by
 unfold qhm at hc;split at hc
 ·rename_i ho;cases hc;exact qrF h e2 e3 e1 ho hn
 ·exact qrG h e2 e3 e1 hc hn
def qmQ[Lent](C:qk)(μ:MMap)(G:AH)(ids:List Nat):Prop:=∀id d sz rs,id∈ids->G[id]? =some (.rows d sz rs)->∀m,μ id=some m->qib C μ m sz rs∧Lent.nw m.block
theorem qnI[Lent]{a x:AV}{v:Value}(hr:Rep C μ a v)(h:a.unl=some x):Rep0 (LC C) x v∧x.isCell=true∧x.refsLt 0=true:=by
 unfold AV.unl at h;split at h
 ·cases h;cases hr;exact⟨.int _ _,rfl,rfl⟩
 ·cases h;cases hr;exact⟨.bool _,rfl,rfl⟩
 ·cases h;cases hr;exact⟨.str _,rfl,rfl⟩
 ·cases h;cases hr with|lsl _ _ h0=>exact⟨h0,rfl,rfl⟩
 ·cases h;exact⟨hr.toEmp.monoD (λb o v h=>by cases h),rfl,rfl⟩
 ·cases h;cases hr;exact⟨.slNil,rfl,rfl⟩
 ·cases h;cases hr with|em a cap=>exact⟨.sl [] a cap 0 (λ_ _=>undef) (λh=>absurd rfl h) (λi row h=>by simp at h) (λi j row x h=>by simp at h) (λi j row x h=>by simp at h) (λi j row x h=>by simp at h) (Nat.zero_le _) rfl,rfl,rfl⟩
 ·cases h
theorem qpo:∀{l q:List (List AV)},unlR l=some q->q.length=l.length∧∀(i:Nat) r,q[i]? =some r->∃a,l[i]? =some a∧datL AV.unl a=some r
 |[],q,h=>by cases h;exact⟨rfl,λi a hi=>by simp at hi⟩
 |a::l,q,h=>by
  rw[unlR]at h;split at h
  ·rename_i x q' hx hq;cases h;obtain⟨h1,h2⟩:=qpo hq;refine⟨by simp[h1],λi b hi=>?_⟩;cases i with
   |zero=>simp at hi;subst hi;exact⟨a,rfl,hx⟩
   |succ i=>exact h2 i b (by simpa using hi)
  ·cases h
theorem qdk[Lent]{G:AH}{μ':MMap}{a x:AV}{v:Value}(hf:qmQ C μ G a.msId)(hr:Rep C μ a v)(h:z9 G a=some x):Rep C μ' x.lend v∧x.lend.refsLt 0=true:=by
 unfold z9 at h;split at h
 ·rename_i id off len;split at h
  case h_2=>cases h
  rename_i d sz rs hid;split at h
  case isFalse=>cases h
  rename_i hle;rw[qGj]at hle;obtain⟨rows,hrows,rfl⟩:=qFM.1 h;obtain⟨hql,hqg⟩:=qpo hrows;have hlen:((rs.drop off).take len).length=len:=by simp;omega
  refine⟨.lsl rows v ?_,rfl⟩;cases hr with
  |msN _ _=>
   have:rows=[]:=qFZ (by rw[hql,hlen]);subst this;exact .slNil
  |ms _ _ _ cap ad m hm hl ha=>
   obtain⟨⟨hsz,_,hcell⟩,hnw⟩:=hf id d sz rs (by simp[AV.msId]) hid m hm;have hrl:rows.length=len:=by rw[hql,hlen]
   have addr:∀(i:Nat) r,rows[i]? =some r->ad=⟨m.block,m.base+off*m.sz,none⟩:=λi r hi=>(ha (by have:=(qFF.1 hi).1;omega)).1
   have cell:∀(i j:Nat) r x,rows[i]? =some r->r[j]? =some x->∃u,LC C ad.block (ad.off+i*sz+j)=some u∧Rep0 (LC C) x u∧x.isCell=true:=by
    intro i j r x hi hj;obtain⟨a0,ha0,hd⟩:=hqg i r hi;obtain⟨y,hy,hyx⟩:=qc0 hd hj;obtain⟨_,hr0⟩:=vp ha0;obtain⟨_,u,h2,h3⟩:=(hcell _ a0 hr0).2 j y hy;obtain⟨k1,k2,_⟩:=qnI h3 hyx;refine⟨u,?_,k1,k2⟩;rw[addr i r hi];unfold LC;rw[qGq hnw,←h2];simp only
    congr 1
    rw[hsz,Nat.add_mul];omega
   rw[←hrl]at hl⊢;refine .sl rows ad cap sz (λi j=>(LC C ad.block (ad.off+i*sz+j)).getD undef) (λhne=>?_) (λi r hi=>?_) (λi j r x hi hj=>?_) (λi j r x hi hj=>?_) (λi j r x hi hj=>?_) hl ?_
   ·cases hx:rows with
    |nil=>exact absurd hx hne
    |cons r l=>rw[addr 0 r (by rw[hx];rfl)]
   ·obtain⟨a0,ha0,hd⟩:=hqg i r hi;obtain⟨_,hr0⟩:=vp ha0;rw[(qa0 hd).1];exact(hcell _ a0 hr0).1
   ·obtain⟨u,e,_⟩:=cell i j r x hi hj;rw[e];rfl
   ·obtain⟨u,e,e2,_⟩:=cell i j r x hi hj;rw[e];exact e2
   ·obtain⟨u,_,_,e3⟩:=cell i j r x hi hj;exact e3
   ·rw[yM];intro r hr;obtain⟨i,hi⟩:=List.getElem?_of_mem hr;rw[zi];intro x hx;obtain⟨j,hj⟩:=List.getElem?_of_mem hx;obtain⟨a0,ha0,hd⟩:=hqg i r hi;obtain⟨y,hy,hyx⟩:=qc0 hd hj;obtain⟨_,hr0⟩:=vp ha0;obtain⟨_,u,h2,h3⟩:=(hcell _ a0 hr0).2 j y hy;exact(qnI h3 hyx).2.2
 ·cases h;cases hr with|lsl _ _ h0=>exact⟨.lsl _ _ h0,rfl⟩
 ·cases h;exact⟨.lsl [] v (hr.toEmp.monoD (λb o v h=>by cases h)),rfl⟩
 ·cases h;cases hr;exact⟨.lsl [] _ .slNil,rfl⟩
 ·cases h;cases hr with|em a cap=>exact⟨.lsl [] _ (.sl [] a cap 0 (λ_ _=>undef) (λh=>absurd rfl h) (λi row h=>by simp at h) (λi j row x h=>by simp at h) (λi j row x h=>by simp at h) (λi j row x h=>by simp at h) (Nat.zero_le _) rfl),rfl⟩
 ·cases h;cases hr;exact⟨.int _ _,rfl⟩
 ·cases h;cases hr;exact⟨.bool _,rfl⟩
 ·cases h;cases hr;exact⟨.str _,rfl⟩
 ·cases h
theorem qr3{G:AH}{a x:AV}(h:z9 G a=some x):x.lend1=x.lend:=by
 unfold z9 at h;split at h
 ·split at h
  ·split at h
   ·obtain⟨rows,_,rfl⟩:=qFM.1 h;rfl
   ·cases h
  ·cases h
 all_goals first|(cases h;rfl)|cases h
theorem qp3{G:AH}{a x:AV}(h:z9 G a=some x):x.lendT=x.lend1:=by
 unfold z9 at h;split at h
 ·split at h
  ·split at h
   ·obtain⟨rows,_,rfl⟩:=qFM.1 h;rfl
   ·cases h
  ·cases h
 all_goals first|(cases h;rfl)|cases h
theorem qr2{G:AH}{a x:AV}(h:qbj G a=some x):x.lendT=x.lend1:=by
 unfold qbj at h;split at h
 ·obtain⟨q,_,rfl⟩:=qFM.1 h;rfl
 ·exact qp3 h
theorem qdj[Lent]{G:AH}{μ':MMap}{a x:AV}{v:Value}(hf:∀ids,qmQ C μ G ids)(hr:Rep C μ a v)(h:qbj G a=some x):Rep C μ' x.lend1 v∧x.lend1.refsLt 0=true:=by
 unfold qbj at h;split at h
 ·rename_i cs;obtain⟨q,hq,rfl⟩:=qFM.1 h;obtain⟨hl,hg⟩:=qa0 hq;cases hr with
  |agg _ us hlu hh=>
   have key:∀(j:Nat) y,q[j]? =some y->∃a,cs[j]? =some a∧z9 G a=some y:=λj y hj=>qc0 hq hj
   refine⟨Rep.agg _ us (by simp[hl,hlu]) (λj y u h1 h2=>?_),?_⟩
   ·obtain⟨y,h1',rfl⟩:=qw h1;obtain⟨a,ha,hax⟩:=key j y h1';exact(qdk (hf _) (hh j a u ha h2) hax).1
   ·show(AV.agg (q.map AV.lend)).refsLt 0=true;rw[AV.refsLt,zi];intro y hy;obtain⟨y,hy',rfl⟩:=List.mem_map.1 hy;obtain⟨j,hj⟩:=List.getElem?_of_mem hy';obtain⟨a,ha,hax⟩:=key j y hj;have hlt:j<us.length:=by rw[←hlu];exact(qFF.1 ha).1
    exact(qdk (μ':=μ') (hf _) (hh j a _ ha (qFE hlt)) hax).2
 ·have hl:x.lend1=x.lend:=qr3 h;rw[hl];exact qdk (hf _) hr h
theorem qj2[Lent]{G:AH}{μ':MMap}{a x:AV}{v:Value}(hf:∀ids,qmQ C μ G ids)(hr:Rep C μ a v)(h:qfw G a=some x):Rep C μ' x.lendT v∧x.lendT.refsLt 0=true:=by
 unfold qfw at h;split at h
 ·rename_i cs;obtain⟨q,hq,rfl⟩:=qFM.1 h;obtain⟨hl,hg⟩:=qa0 hq;cases hr with
  |tup _ us hlu hh=>
   have key:∀(j:Nat) y,q[j]? =some y->∃a,cs[j]? =some a∧qbj G a=some y:=λj y hj=>qc0 hq hj
   refine⟨Rep.tup _ us (by simp[hl,hlu]) (λj y u h1 h2=>?_),?_⟩
   ·obtain⟨y,h1',rfl⟩:=qw h1;obtain⟨a,ha,hax⟩:=key j y h1';exact(qdj hf (hh j a u ha h2) hax).1
   ·show(AV.tup (q.map AV.lend1)).refsLt 0=true;rw[AV.refsLt,zi];intro y hy;obtain⟨y,hy',rfl⟩:=List.mem_map.1 hy;obtain⟨j,hj⟩:=List.getElem?_of_mem hy';obtain⟨a,ha,hax⟩:=key j y hj;have hlt:j<us.length:=by rw[←hlu];exact(qFF.1 ha).1
    exact(qdj (μ':=μ') hf (hh j a _ ha (qFE hlt)) hax).2
 ·have hl:x.lendT=x.lend1:=qr2 h;rw[hl];exact qdj hf hr h
theorem qlI[Lent]{G:AH}{w1:World}(h:Wld C μ G w1):∃C',(∀b o v,C b o=some v->C' b o=some v)∧Wld C' μ (qV (qGn G.length) G) w1∧(∀k,k<=G.length->Ext k C μ G w1 C' μ (qV (qGn G.length) G) w1)∧∀ids,qmQ C' μ G ids:=by
 obtain⟨C3,a1,a2,a3⟩:=xb (qGn G.length) h;refine⟨C3,a1,a2,a3,λids id d sz rs _ hi m hm=>?_⟩;have hr:vg G id=some (sz,rs):=by unfold vg;rw[hi]
 exact⟨(xU.of a2 id sz rs (List.mem_range.2 (qFF.1 hi).1) hr).1 m hm,(h.liveH hi rfl hm _ m.has_block).2.2.2⟩
theorem qAB[Lent]{m:MI}{w:World}(h:xr C μ w m .reg):zR m.D w:=by
 have h:∀b o v,m.D b o=some v->w.cell? ⟨b,o,none⟩=some v∧w.frozen? ⟨b,o,none⟩=false:=h;refine⟨λb o v hd=>⟨(h b o v hd).2,by rw[(h b o v hd).1];rfl⟩,λb o hr=>.inl λj hj=>?_,λb o _ ⟨x,l,c,hs⟩=>by rw[(h _ _ _ hs).1,hs]⟩;obtain⟨⟨k,h0⟩,⟨n,h1⟩,⟨s,h2⟩,x,l,c,h3⟩:=hr
 match j,hj with
 |0,_=>exact(h _ _ _ h0).1.trans h0.symm
 |1,_=>exact(h _ _ _ h1).1.trans h1.symm
 |2,_=>exact(h _ _ _ h2).1.trans h2.symm
 |3,_=>exact(h _ _ _ h3).1.trans h3.symm
 |j+4,hj=>omega
theorem Wld.oneR[Lent](h:Wld C μ H w){b0:ABlk}{id:Nat}(hb0:b0= .reg∨b0= .spl)(hi:H[id]? =some b0):Wld C (λk=>if k=0 then μ id else none) [.spl] w:=by
 have hl0:b0.live=true:=by rcases hb0 with rfl|rfl<;>rfl
 have only:∀(k:Nat) b,([.spl]:AH)[k]? =some b->k=0∧b= .spl:=λk b hk=>by
  cases k with
  |zero=>simp at hk;exact⟨rfl,hk.symm⟩
  |succ k=>simp at hk
 refine⟨h.cl,λk m hk=>?_,λk hk=>?_,λk b hk hb=>?_,λk d sz rs hk=>?_,λi i' b b' m m' e1 e2 _ _ _ _ _ _ _=>?_,λk b hk=>?_,h.lnt⟩
 ·split at hk
  ·rename_i e;subst e;simp
  ·cases hk
 ·have:=(only k _ hk).2;cases this
 ·obtain⟨rfl,rfl⟩:=only k b hk;simp only[if_true];refine⟨λhn=>rfl,λm hm=>?_⟩;have h4:=(h.liveM hi hl0 hm).2.2;refine⟨h.liveH hi hl0 hm,?_⟩;rcases hb0 with rfl|rfl
  ·exact qAB h4
  ·exact h4
 ·have:=(only k _ hk).2;cases this
 ·rw[(only i b e1).1,(only i' b' e2).1]
 ·obtain⟨rfl,rfl⟩:=only k b hk
  trivial
theorem Wld.putBackR[Lent](h:Wld C μ H w){b0:ABlk}{id:Nat}(hb0:b0= .reg∨b0= .spl)(hi:H[id]? =some b0){l:AH}{C2:qk}{μ2:MMap}{w1:World}(h2:Wld C2 μ2 (.spl::l) w1)(hx:Ext 1 C (λk=>if k=0 then μ id else none) [.spl] w C2 μ2 (.spl::l) w1):
  Wld C2 (λi=>if i=id then μ2 0 else μ i) (H.set id .spl) w1∧Ext H.length C μ H w C2 (λi=>if i=id then μ2 0 else μ i) (H.set id .spl) w1:=by
 have hl0:b0.live=true:=by rcases hb0 with rfl|rfl<;>rfl
 have h20:(ABlk.spl::l)[0]? =some .spl:=rfl;have hmu:MLe μ (λi=>if i=id then μ2 0 else μ i):=by
  intro i m hm
  by_cases e:i=id
  ·subst e;simp only[↓reduceIte];exact hx.mu 0 m (by omega) (by simpa using hm)
  ·simp only[qGr e];exact⟨m,hm,.refl m⟩
 have nl:∀b,(∀m,μ id=some m->¬m.has b)->¬Live [.spl] (λk=>if k=0 then μ id else none) b:=by
  rintro b hb ⟨i,bi,mi,e1,_,e3,e4⟩;simp only at e3;split at e3
  ·exact hb _ e3 e4
  ·cases e3
 have hlen:id<H.length:=(qFF.1 hi).1;have aux:∀(j:Nat) bj,(H.set id .spl)[j]? =some bj->(j=id∧bj= .spl)∨(j≠id∧H[j]? =some bj):=by
  intro j bj hj;rw[qF1]at hj;split at hj
  ·rename_i e;subst e
   try rw[qGq hlen]at hj
   cases hj;exact .inl ⟨rfl,rfl⟩
  ·rename_i e;exact .inr ⟨λe'=>e e'.symm,hj⟩
 have apart:∀(j:Nat) bj mj,j≠id->H[j]? =some bj->bj.live=true->μ j=some mj->∀x,mj.has x->x<w.heap.size∧¬Live [.spl] (λk=>if k=0 then μ id else none) x:=by
  intro j bj mj hne e hb f1 x hxj;exact⟨(h.liveH e hb f1 x hxj).1,nl _ λm hm he=>hne (h.inj j id bj _ mj m e hi hb hl0 f1 hm x hxj he)⟩
 refine⟨⟨h2.cl,λj mj hj=>?_,λj hj=>?_,λj b hj hb=>?_,λj d sz rs hj=>?_,λi i' b b' m1 m2 e1 e2 e3 e4 e5 e6 x e7 e8=>?_,?_,h2.lnt⟩,
  ⟨hx.os,hx.tape,hx.output,hx.size,hx.cl,λi m _ hm=>hmu i m hm,λb hb hnl=>?_,by simp⟩⟩
 ·simp only[List.length_set]
  by_cases e:j=id
  ·subst e;exact hlen
  ·rw[qGr e]at hj;exact h.dom j mj hj
 ·rcases aux j _ hj with⟨_,e⟩|⟨hne,e⟩
  ·cases e
  ·simp only[qGr hne];exact h.res j e
 ·rcases aux j b hj with⟨rfl,rfl⟩|⟨hne,e⟩
  ·simp only[if_true];refine⟨λ_=>rfl,λm hm=>⟨h2.liveH h20 rfl hm,(h2.liveM h20 rfl hm).2.2⟩⟩
  ·simp only[qGr hne];refine⟨(h.live j b e hb).1,λmj f1=>?_⟩;obtain⟨f2,f4⟩:=(h.live j b e hb).2 mj f1;have q:=λx (hxj:mj.has x)=>hx.fr x (f2 x hxj).1 (apart j b mj hne e hb f1 x hxj).2
   exact⟨λx hxj=>⟨Nat.lt_of_lt_of_le (f2 x hxj).1 hx.size,λo=>by rw[(q x hxj).2.2];exact(f2 x hxj).2.1 o,(f2 x hxj).2.2⟩,f4.monoG hx.cl hmu (λx hxj=>(q x hxj).1)⟩
 ·rcases aux j _ hj with⟨_,e⟩|⟨hne,e⟩
  ·cases e
  ·simp only[qGr hne];refine⟨(h.froz j d sz rs e).1,λmj f1=>?_⟩;obtain⟨f2,f3,f4⟩:=(h.froz j d sz rs e).2 mj f1;exact⟨f2,f3,f4.monoG hx.cl hmu (λi j row x hi' hj'=>by
    obtain⟨_,v,hv,_⟩:=(f4 i row hi').2 j x hj';exact(hx.cl _ _ _ hv).trans hv.symm)⟩
 ·have cross:∀(j:Nat) bj mj m0,j≠id->H[j]? =some bj->bj.live=true->μ j=some mj->μ2 0=some m0->∀x,m0.has x->¬mj.has x:=by
   intro j bj mj m0 hne e hb f1 hm0 x hx0 hxj;obtain⟨f2,f3⟩:=apart j bj mj hne e hb f1 x hxj;exact(hx.fr x f2 f3).2.1 ⟨0,_,m0,h20,rfl,hm0,hx0⟩
  rcases aux i b e1 with⟨rfl,rfl⟩|⟨hne,e⟩<;>rcases aux i' b' e2 with⟨rfl,rfl⟩|⟨hne',e'⟩
  ·rfl
  ·rw[qGq rfl]at e5;rw[qGr hne']at e6;exact(cross i' b' m2 m1 hne' e' e4 e6 e5 x e7 e8).elim
  ·rw[qGr hne]at e5;rw[qGq rfl]at e6;exact(cross i b m1 m2 hne e e3 e5 e6 x e8 e7).elim
  ·rw[qGr hne]at e5;rw[qGr hne']at e6;exact h.inj i i' b b' m1 m2 e e' e3 e4 e5 e6 x e7 e8
 ·exact h.free.set (b:=.spl) trivial
 ·obtain⟨q1,q2,q3⟩:=hx.fr b hb (nl b λm hm e=>hnl ⟨id,_,m,hi,hl0,hm,e⟩);refine⟨q1,λhl=>?_,q3⟩;obtain⟨j,bj,mj,e1,e2,e3,e5⟩:=hl;simp only at e3;rcases aux j bj e1 with⟨rfl,rfl⟩|⟨hne,e⟩
  ·rw[qGq rfl]at e3;exact q2 ⟨0,_,mj,h20,rfl,e3,e5⟩
  ·rw[qGr hne]at e3;exact hnl ⟨j,bj,mj,e,e2,e3,e5⟩
theorem qj1{cf:Orac}{f:Nat}:∀{l:List AV},zY cf f l=some ()->∀(i:Nat) a,l[i]? =some a->∃G,cf (.f f) [a] [.spl]=some (.tup [],.spl::G)
 |[],_,i,a,h=>by simp at h
 |b::l,h,i,a,hi=>by
  rw[zY]at h;obtain⟨q,h1,h⟩:=qFL.1 h;obtain⟨u,h2,h⟩:=qFL.1 h;cases i with
  |zero=>
   simp at hi;subst hi;obtain⟨r,G⟩:=q;unfold qiT at h2;split at h2
   ·rename_i e1 e2;simp only at e1 e2;subst e1 e2;exact⟨_,h1⟩
   ·cases h2
  |succ i=>exact qj1 h i a (by simpa using hi)
theorem Rep.altOf[Lent]{a:AV}{v:Value}(h:Rep C μ a v):∃(i:Nat) (x:AV),a.alts[i]? =some x∧Rep C μ x v:=by
 by_cases e:∃l,a= .alt l
 ·obtain⟨l,rfl⟩:=e;cases h with|alt _ i x _ ha h=>exact⟨i,x,ha,h⟩
 ·refine⟨0,a,?_,h⟩;cases a<;>first|rfl|exact absurd ⟨_,rfl⟩ e
theorem qlF [Lent] {cfg : Cfg} {cf : Orac} (hO : qaj cfg cf) {f : FuncId} {a : AV} {vs : Array Value} {s : Sem Next} (ha : qy C μ [a] vs) (h : Wld C μ H w) (hs : s = callFunc f vs) {id : Nat} {l : List Nat} (hids : vo 0 a.alts = id :: l) (hall : ye [id] l = true)
    {b0 : ABlk} (hb0 : b0 = .reg ∨ b0 = .spl) (hi : H[id]? = some b0) (ho : zY cf f (renL (fun _ => 0) a.alts) = some ()) : vB cfg.P s w (vY C μ H w (.tup []) (H.set id .spl)) := by
  obtain ⟨hl, hv⟩ := ha
  obtain ⟨v, rfl⟩ : ∃ v, vs = #[v] := by
    obtain ⟨l⟩ := vs
    match l, hl with
    | [x], _ => exact ⟨x, rfl⟩
  obtain ⟨i, x, hx, hr⟩ := (hv 0 a v rfl rfl).altOf
  have hin : ∀ y ∈ vo 0 a.alts, y ∈ [id] := by
    rw [hids]
    intro y hy
    rcases qF6.1 hy with rfl | hy
    · simp
    · exact (ze.1 hall) y hy
  have hx' : (renL (fun _ => 0) a.alts)[i]? = some (x.ren fun _ => 0) := by rw [zD, List.getElem?_map, hx]; rfl
  obtain ⟨G, hG⟩ := qj1 ho i _ hx'
  have ha' : qy C (fun k => if k = 0 then μ id else none) [x.ren fun _ => 0] #[v] := ⟨rfl, fun j c u h1 h2 => by
    match j, h1, h2 with
    | 0, h1, h2 =>
      simp at h1 h2
      subst h1 h2
      refine hr.renm (k := 0) (L := [id]) (fun y my hy hmy => ?_) (fun y hy => hin y (yK hx y hy))
      have : y = id := by rcases hy with hy | hy; · omega
                          · simpa using hy
      subst this
      simpa using hmy
    | j + 1, h1, h2 => simp at h1⟩
  refine (hO _ _ _ _ _ hG C _ w #[v] s ha' (h.oneR hb0 hi) hs).mono fun v w1 ⟨C2, μ2, e1, e2, e3⟩ => ?_
  obtain ⟨b1, b2⟩ := h.putBackR hb0 hi e2 e3
  refine ⟨C2, _, ?_, b1, b2⟩
  exact e1.free _ (by simp [AV.refsLt, qK])
theorem qAw{id:Nat}(hi:H[id]? =some .spl):H.set id .spl=H:=by
 apply List.ext_getElem?;intro i;rw[qF1];split
 ·rename_i e;subst e;rw[hi,qGq (qFF.1 hi).1]
 ·rfl
theorem Wld.places[Lent](h:Wld C μ H w)(n:Nat):Wld C μ (H++qGd n .res) w where
 cl:=h.cl
 lnt:=h.lnt
 dom:=λid m hm=>by have:=h.dom id m hm;simp;omega
 res:=λid hi=>by
  rcases Nat.lt_or_ge id H.length with hlt|hge
  ·rw[qFX hlt]at hi;exact h.res id hi
  ·cases hm:μ id with
   |none=>rfl
   |some m=>have:=h.dom id m hm;omega
 live:=λid blk h1 h2=>by
  rcases Nat.lt_or_ge id H.length with hlt|hge
  ·rw[qFX hlt]at h1;exact h.live id blk h1 h2
  ·rw[qF0 hge]at h1;have:=qFK h1;rw[List.mem_replicate]at this;rw[this.2]at h2;cases h2
 free:=λid b h1=>by
  rcases Nat.lt_or_ge id H.length with hlt|hge
  ·rw[qFX hlt]at h1;exact h.free id b h1
  ·rw[qF0 hge]at h1;have:=qFK h1;rw[List.mem_replicate]at this;rw[this.2];trivial
 froz:=λid d sz rs h1=>by
  rcases Nat.lt_or_ge id H.length with hlt|hge
  ·rw[qFX hlt]at h1;exact h.froz id d sz rs h1
  ·rw[qF0 hge]at h1;have:=qFK h1;rw[List.mem_replicate]at this;cases this.2
 inj:=λi i' b b' m m' h1 h2 h3 h4=>by
  have aux:∀(j:Nat) bj,(H++qGd n .res)[j]? =some bj->bj.live=true->H[j]? =some bj:=by
   intro j bj hj hl;rcases Nat.lt_or_ge j H.length with hlt|hge
   ·rw[qFX hlt]at hj;exact hj
   ·rw[qF0 hge]at hj;have:=qFK hj;rw[List.mem_replicate]at this;rw[this.2]at hl;cases hl
  exact h.inj i i' b b' m m' (aux i b h1 h3) (aux i' b' h2 h4) h3 h4
theorem Live.places{n b:Nat}(h:Live (H++qGd n .res) μ b):Live H μ b:=by
 obtain⟨j,bj,m,h1,h2,h3,h4⟩:=h;rcases Nat.lt_or_ge j H.length with hlt|hge
 ·rw[qFX hlt]at h1;exact⟨j,bj,m,h1,h2,h3,h4⟩
 ·rw[qF0 hge]at h1;have:=qFK h1;rw[List.mem_replicate]at this;rw[this.2]at h2;cases h2
theorem qqA[Lent](h:Wld C μ H w){fr:List AV}{tmps:Array Value}(hf:qy C μ fr tmps)(k:Nat)(hk:k<=H.length):∃μ',Wld C μ' (gc k fr H).2 w∧qy C μ' (gc k fr H).1 tmps∧Ext k C μ H w C μ' (gc k fr H).2 w:=by
 obtain⟨μ',g1,g2,g3,g4,g5⟩:=qqz h hf k hk;exact⟨μ',g1,g2,⟨rfl,rfl,rfl,qFH _,λ_ _ _ h=>h,λid m hid hm=>⟨m,g3 id m hid hm,.refl m⟩,λb _ hnl=>⟨rfl,λhl=>hnl (g4 b hl),rfl⟩,g5⟩⟩
theorem qy.setA[Lent]{fr:List AV}{tmps:Array Value}(h:qy C μ fr tmps){i:Nat}{a:AV}(ha:∀v,tmps[i]? =some v->Rep C μ a v):qy C μ (fr.set i a) tmps:=by
 refine⟨by simpa using h.1,λj x v e1 e2=>?_⟩;rw[qF1]at e1;split at e1
 ·rename_i e;subst e;split at e1
  ·cases e1;exact ha v e2
  ·cases e1
 ·exact h.2 j x v e1 e2
theorem Wld.reRow[Lent](h:Wld C μ H w){id n:Nat}{d:Bool}{rs rs':List (List AV)}(hi:H[id]? =some (.rows d n rs))(hne:rs≠[])(hr:∀m,μ id=some m->xr C μ w m (.rows d n rs)->xr C μ w m (.rows false n rs')):
  Wld C μ (H.set id (.rows false n rs')) w∧∀j,j<=H.length->Ext j C μ H w C μ (H.set id (.rows false n rs')) w:=by
 obtain⟨m,hm,h1,h2,h3⟩:=h.liveX hi rfl (by cases rs<;>first|rfl|exact absurd rfl hne);exact⟨h.setBlk hi rfl rfl hm rfl (λ_ _=>rfl) (hr m hm h3) (λhd=>by cases hd),λj hj=>Ext.setBlk h hi rfl hm rfl (λ_ _=>rfl) rfl rfl rfl hj⟩
theorem Wld.trim[Lent](h:Wld C μ H w){j n:Nat}{rs:List (List AV)}(hj:H[j]? =some (.rows true n rs))(k:Nat):
  Wld C μ (H.set j (.rows true n (rs.take k))) w∧∀i,i<=H.length->Ext i C μ H w C μ (H.set j (.rows true n (rs.take k))) w:=by
 have hlen:j<H.length:=(qFF.1 hj).1;have aux:∀(i:Nat) b,(H.set j (.rows true n (rs.take k)))[i]? =some b->(i=j∧b= .rows true n (rs.take k))∨(i≠j∧H[i]? =some b):=by
  intro i b hb;rw[qF1]at hb;split at hb
  ·rename_i e;subst e
   try rw[qGq hlen]at hb
   cases hb;exact .inl ⟨rfl,rfl⟩
  ·rename_i e;exact .inr ⟨λe'=>e e'.symm,hb⟩
 have back:∀(i:Nat) b,(H.set j (.rows true n (rs.take k)))[i]? =some b->b.live=true->∃b',H[i]? =some b'∧b'.live=true:=by
  intro i b hb hl;rcases aux i b hb with⟨rfl,rfl⟩|⟨_,e⟩
  ·exact⟨_,hj,rfl⟩
  ·exact⟨b,e,hl⟩
 have hw:Wld C μ (H.set j (.rows true n (rs.take k))) w:=by
  refine⟨h.cl,λi m hm=>by rw[List.length_set];exact h.dom i m hm,λi hi=>?_,λi b hi hb=>?_,λi d sz rs' hi=>?_,λi i' b b' m1 m2 e1 e2 e3 e4 e5 e6 x e7 e8=>?_,?_,h.lnt⟩
  ·rcases aux i _ hi with⟨_,e⟩|⟨_,e⟩
   ·cases e
   ·exact h.res i e
  ·rcases aux i b hi with⟨rfl,rfl⟩|⟨_,e⟩
   ·obtain⟨a1,a2⟩:=h.live i _ hj rfl;refine⟨λhn=>?_,λm hm=>?_⟩
    ·have:=a1 hn;cases rs with
     |nil=>simp[ABlk.vacant]
     |cons x l=>cases this
    ·obtain⟨b1,b2⟩:=a2 m hm;obtain⟨c1,c2,c3,c4⟩:=b2;refine⟨b1,c1,?_,λi row hi'=>?_,c4⟩
     ·refine Nat.le_trans (qGe _ ?_) c2;rw[qF9];omega
     ·rw[List.getElem?_take]at hi';split at hi'
      ·exact c3 i row hi'
      ·cases hi'
   ·exact h.live i b e hb
  ·rcases aux i _ hi with⟨_,e⟩|⟨_,e⟩
   ·cases e
   ·exact h.froz i d sz rs' e
  ·obtain⟨c1,g1,g2⟩:=back i b e1 e3;obtain⟨c2,g3,g4⟩:=back i' b' e2 e4;exact h.inj i i' c1 c2 m1 m2 g1 g3 g2 g4 e5 e6 x e7 e8
  ·refine h.free.set (b:=.rows true n (rs.take k)) (λhd=>?_);have:=h.free j _ hj rfl;rw[yM]at this⊢;exact λr hr=>this r (List.mem_of_mem_take hr)
 refine⟨hw,λi hi=>⟨rfl,rfl,rfl,qFH _,λ_ _ _ h=>h,λ_ m _ h=>⟨m,h,.refl m⟩,λb _ hnl=>⟨rfl,λhl=>?_,rfl⟩,by rw[List.length_set];exact hi⟩⟩;obtain⟨i,bi,mi,e1,e2,e3,e4⟩:=hl;obtain⟨c1,g1,g2⟩:=back i bi e1 e2;exact hnl ⟨i,c1,mi,g1,g2,e3,e4⟩
theorem qr9[Lent](h:Wld C μ H w){fr:List AV}{tmps:Array Value}(hf:qy C μ fr tmps)(t sz:Nat):
  Wld C μ (qfz t sz fr H).2 w∧qy C μ (qfz t sz fr H).1 tmps∧H.length<=(qfz t sz fr H).2.length∧∀j,j<=H.length->Ext j C μ H w C μ (qfz t sz fr H).2 w:=by
 have triv:Wld C μ H w∧qy C μ fr tmps∧H.length<=H.length∧∀j,j<=H.length->Ext j C μ H w C μ H w:=⟨h,hf,qFH _,λj hj=>Ext.refl hj⟩;unfold qfz;split
 ·rename_i hn;obtain⟨n1,n2⟩:=h.newV (nid:=none) (blk:=.rows true sz []) rfl rfl rfl (λ_=>rfl);refine⟨n1,hf.setA λv hv=>?_,by simp,n2⟩;have:=hf.2 t _ v hn hv;cases this;exact .msN _ _
 ·rename_i id r off hp;split
  ·rename_i d n rs hi;split
   ·rename_i row hr;split
    ·rename_i ho;have hne:rs≠[]:=by rintro rfl;simp at hr
     obtain⟨r1,r2⟩:=h.reRow (rs':=rs.set r (row.set off (.ms H.length 0 0))) hi hne (λm hm hb=>by
      obtain⟨b1,b2,b3,b4⟩:=hb;refine⟨b1,by simpa using b2,λi row' hi'=>?_,b4⟩;rw[qF1]at hi';split at hi'
      ·rename_i e;subst e;split at hi'
       ·cases hi';refine⟨by simpa using (b3 r row hr).1,λj x hj=>?_⟩;rw[qF1]at hj;split at hj
        ·rename_i e2;subst e2;split at hj
         ·cases hj;obtain⟨_,v,c2,c3⟩:=(b3 r row hr).2 off _ ho;refine⟨rfl,v,c2,?_⟩;cases c3;exact .msN _ _
         ·cases hj
        ·exact(b3 r row hr).2 j x hj
       ·cases hi'
      ·exact b3 i row' hi')
     obtain⟨n1,n2⟩:=r1.newV (nid:=none) (blk:=.rows true (lsz sz) []) rfl rfl rfl (λ_=>rfl);exact⟨n1,hf,by simp,λj hj=>(r2 j hj).trans (n2 j (by simpa using hj)) (qFH _)⟩
    ·rename_i j len _;split
     ·split
      ·rename_i n' rs' hj;obtain⟨t1,t2⟩:=h.trim hj len;exact⟨t1,hf,by simp,t2⟩
      ·exact triv
     ·exact triv
    ·exact triv
   ·exact triv
  ·exact triv
 ·exact triv
theorem qdB [Lent] {cfg : Cfg} {cf : Orac} (hO : qaj cfg cf) {nid : Option Nat} {t : Tgt} {args : List AV} {vs : Array Value} {s : Sem Next} {r : AV} (ha : qy C μ args vs) (h : Wld C μ H w) (ht : qvw μ t vs s)
    (he : vA cfg cf nid t args H = some (r, H')) : vB cfg.P s w (vY C μ H w r H') := by
  have imp : ∀ {r1 : AV} {H1 : AH} {v : Value} {w1 : World}, yY nid H.length r1 H1 = some (r, H') → vY C μ H w r1 H1 v w1 → vY C μ H w r H' v w1 := by
    intro r1 H1 v w1 hi ⟨C1, μ1, e1, e2, e3⟩
    have hf : qy C1 μ1 [r1] #[v] := ⟨rfl, fun i a u h1 h2 => by
      cases i with
      | zero => simp at h1 h2; subst h1; subst h2; exact e1
      | succ i => simp at h1⟩
    obtain ⟨μ', g1, g2, g3, g4, g5⟩ := qqz e2 hf H.length e3.len
    have fin : ∀ {r' : AV} {H2 : AH}, gc H.length [r1] H1 = ([r'], H2) → vY C μ H w r' H2 v w1 := by
      intro r' H2 hg
      rw [hg] at g1 g2 g4 g5
      refine ⟨C1, μ', g2.2 0 r' v rfl rfl, g1, ⟨e3.os, e3.tape, e3.output, e3.size, e3.cl, fun id m hid hm => let ⟨m', e4, e5⟩ := e3.mu id m hid hm; ⟨m', g3 id m' hid e4, e5⟩, fun b hb hnl => ?_, g5⟩⟩
      obtain ⟨f1, f2, f3⟩ := e3.fr b hb hnl
      exact ⟨f1, fun hl => f2 (g4 b hl), f3⟩
    unfold yY at hi
    split at hi
    · rename_i r' H2 hg
      split at hi
      · cases hi; exact fin hg
      · split at hi
        · cases hi; exact fin hg
        · cases hi
    · cases hi
  unfold vA at he
  split at he
  · rename_i id
    obtain ⟨q, hq, hi⟩ := qFL.1 he
    exact (hO _ _ _ _ _ hq C μ w vs s ha h ht).mono fun v w1 hp => imp hi hp
  · rename_i f
    split at he
    · -- scal
      split at he
      case isFalse => cases he
      rename_i hfree
      obtain ⟨q, hq, hi⟩ := qFL.1 he
      split at hi
      case isFalse => cases hi
      rename_i hsc
      cases hi
      obtain ⟨C1, a1, a2, a3⟩ := xb (qGn H.length) h
      have hrg := qro (C1 := C1) h a2.cl
      have hall := (xU.of a2).mono (C' := y5 C1 μ H w) (fun _ _ _ h => qk7 h)
      replace a1 : ∀ b o v, C b o = some v → y5 C1 μ H w b o = some v := fun b o v hh => qk7 (a1 b o v hh)
      have hnil : Wld (y5 C1 μ H w) (fun _ => none) [] w := { cl := fun b o v hh => qpe a2.cl hh, dom := (fun id m hm => nomatch hm), res := fun id hi => rfl, live := (fun id blk h1 => by simp at h1), froz := (fun id d sz rs h1 => by simp at h1), inj := (fun i i' b b' m m' h1 => by simp at h1), free := yL.nil, lnt := ⟨h.lnt.1, fun hu b o v hn hh => qrn h (fun o v => a2.lnt.2.1 hu b o v hn) hh, h.lnt.2.2⟩ }
      have hid : ∀ id, id < H.length → id ∈ qGn H.length := fun id h => List.mem_range.2 h
      have ha1 : qy (y5 C1 μ H w) μ (args.map fun a => (a.snap H).fg) vs := ⟨by simpa using ha.1, fun i a v h1 h2 => by
        obtain ⟨b, hb, rfl⟩ := qw h1
        exact (((ha.2 i b v hb h2).mono a1 (fun _ _ h => h)).snapA hrg hid hall).fgA⟩
      refine (hO _ _ _ _ _ hq _ (fun _ => none) w vs s (ha1.free _ hfree) hnil ht).mono fun v w1 ⟨C2, μ2, e1, e2, e3⟩ => ?_
      have hfr : ∀ b, b < w.heap.size → w1.heap[b]? = w.heap[b]? := fun b hb => (e3.fr b hb vE).1
      exact ⟨C, μ, e1.scalarA hsc, h.world e3.size (fun b hb => hfr b hb), ⟨e3.os, e3.tape, e3.output, e3.size, fun _ _ _ h => h, fun _ _ _ h => ⟨_, h, .refl _⟩, fun b hb hnl => ⟨hfr b hb, hnl, rfl⟩, qFH _⟩⟩
    · -- pfrz
      split at he
      case isFalse => cases he
      rename_i hfree
      obtain ⟨q, hq, hi⟩ := qFL.1 he
      split at hi
      case isFalse => cases hi
      rename_i hrf
      cases hi
      refine (hO _ _ _ _ _ hq C (fun _ => none) w vs s (ha.fg.free _ hfree) h.nil ht).mono fun v w1 ⟨C2, μ2, e1, e2, e3⟩ => ?_
      obtain ⟨C3, a1, a2, a3⟩ := xb q.1.msIds e2
      obtain ⟨b1, b2⟩ := h.back (e3.trans (a3 0 (Nat.zero_le _)) (qFH _)) a2
      exact ⟨C3, μ, ((e1.mono a1 (fun _ _ h => h)).frzA (xU.of a2)).fgA.free μ hrf, b1, b2 _ (qFH _)⟩
    · -- pown
      split at he
      case isFalse => cases he
      rename_i hfree
      obtain ⟨q, hq, hi⟩ := qFL.1 he
      refine (hO _ _ _ _ _ hq C (fun _ => none) w vs s (ha.free _ hfree) h.nil ht).mono fun v w1 ⟨C2, μ2, e1, e2, e3⟩ => ?_
      unfold qdi at hi
      split at hi
      · rename_i a sc hqr
        split at hi
        case isFalse => cases hi
        rename_i hsc
        obtain ⟨p, hp, hpe⟩ := qFM.1 hi
        cases hpe
        rw [hqr] at e1
        cases e1 with
        | tup _ vs hl hr =>
          match vs, hl, hr with
          | [va, vb], _, hr =>
            obtain ⟨C3, a1, a2, a3⟩ := xb sc.msIds e2
            obtain ⟨μ3, f1, f2, f3⟩ := qj0 h a2 (e3.trans (a3 0 (Nat.zero_le _)) (qFH _)) ((hr 0 a va rfl rfl).mono a1 (fun _ _ h => h)) hp
            refine ⟨C3, μ3, ?_, f2, f3⟩
            have := Rep.tup (C := C3) (μ := μ3) [p.1, (sc.frz sc.msIds q.2).fg] [va, vb] rfl (fun i x u hx hu => by
              match i, hx, hu with
              | 0, hx, hu => simp at hx hu; subst hx hu; exact f1
              | 1, hx, hu => simp at hx hu; subst hx hu; exact ((((hr 1 _ _ rfl rfl).mono a1 (fun _ _ h => h)).frzA (xU.of a2)).fgA).free μ3 hsc
              | i + 2, hx, hu => simp at hx)
            exact this
      · exact qug h e2 e3 e1 hi
    · -- nfrz
      split at he
      case isFalse => cases he
      rename_i hfree
      obtain ⟨q, hq, hi⟩ := qFL.1 he
      obtain ⟨V, hV, hpe⟩ := qFM.1 hi
      cases hpe
      refine (hO _ _ _ _ _ hq C (fun _ => none) w vs s (ha.fg.free _ hfree) h.nil ht).mono fun v w1 ⟨C2, μ2, e1, e2, e3⟩ => ?_
      obtain ⟨C3, a1, a2, a3, a4⟩ := qlI e2
      obtain ⟨b1, b2⟩ := h.back (e3.trans (a3 0 (Nat.zero_le _)) (qFH _)) a2
      exact ⟨C3, μ, (qj2 a4 (e1.mono a1 (fun _ _ h => h)) hV).1, b1, b2 _ (qFH _)⟩
    · -- mut
      split at he
      case h_2 =>
        split at he
        case isFalse => cases he
        rename_i hfree
        obtain ⟨q, hq, hi⟩ := qFL.1 he
        split at hi
        case isFalse => cases hi
        rename_i hrf
        cases hi
        refine (hO _ _ _ _ _ hq C (fun _ => none) w vs s (ha.free _ hfree) h.nil ht).mono fun v w1 ⟨C2, μ2, e1, e2, e3⟩ => ?_
        obtain ⟨b1, b2⟩ := h.back e3 e2
        exact ⟨C2, μ, e1.free μ hrf, b1, b2 _ (qFH _)⟩
      rename_i id l hids
      split at he
      case isFalse => cases he
      rename_i hall
      split at he
      case h_2 => cases he
      rename_i d0 sz rs hid
      split at he
      case isFalse => cases he
      rename_i hd0
      have hrr : qQ 0 rs = true := by
        rw [Bool.or_eq_true] at hd0
        exact hd0.elim (fun hd => h.free.get hid hd) (fun h => h)
      obtain ⟨q, hq, hi⟩ := qFL.1 he
      obtain ⟨p, hp, hpe⟩ := qFM.1 hi
      cases hpe
      have hin : ∀ x ∈ vo 0 args, x ∈ [id] := by
        rw [hids]
        intro x hx
        rcases qF6.1 hx with rfl | hx
        · simp
        · exact (ze.1 hall) x hx
      have ha' : qy C (fun k => if k = 0 then μ id else none) (renL (fun _ => 0) args) vs := ha.renm (k := 0) (L := [id]) (fun x mx hx hmx => by
        have : x = id := by rcases hx with hx | hx; · omega
                            · simpa using hx
        subst this
        simpa using hmx) hin
      refine (hO _ _ _ _ _ hq C _ w vs s ha' (h.one hrr hid) ht).mono fun v w1 ⟨C2, μ2, e1, e2, e3⟩ => ?_
      unfold qlJ at hp
      split at hp
      case h_2 => cases hp
      rename_i sz' rs' l' hq2
      split at hp
      case isFalse => cases hp
      rename_i hc
      cases hp
      rw [qFJ] at hc
      have hsz := qFO hc.1
      subst hsz
      rw [hq2] at e2 e3
      obtain ⟨b1, b2⟩ := h.putBack hid e2 e3
      refine ⟨C2, _, ?_, b1, b2⟩
      refine e1.renm (k := 0) (L := [0]) (fun x mx hx hmx => ?_) (fun x hx => (ze.1 hc.2) x hx)
      have : x = 0 := by rcases hx with hx | hx; · omega
                         · simpa using hx
      subst this
      simpa using hmx
    · -- imp
      obtain ⟨q, hq, hi⟩ := qFL.1 he
      exact (hO _ _ _ _ _ hq C μ w vs s ha h ht).mono fun v w1 hp => imp hi hp
    · -- ifrz
      obtain ⟨q, hq, hi⟩ := qFL.1 he
      refine (hO _ _ _ _ _ hq C μ w vs s ha h ht).mono fun v w1 ⟨C2, μ2, e1, e2, e3⟩ => imp hi ?_
      obtain ⟨C3, a1, a2, a3⟩ := xb q.1.msIds e2
      exact ⟨C3, μ2, (e1.mono a1 (fun _ _ h => h)).frzA (xU.of a2), a2, e3.trans (a3 _ e3.len) (qFH _)⟩
    · -- inpf
      split at he
      case h_2 => cases he
      rename_i id l hids
      split at he
      case isFalse => cases he
      rename_i hall
      split at he
      case h_2 => cases he
      rename_i d0 sz rs hid
      split at he
      case isFalse => cases he
      rename_i hd0
      have hrr : qQ 0 rs = true := by
        rw [Bool.or_eq_true] at hd0
        exact hd0.elim (fun hd => h.free.get hid hd) (fun h => h)
      obtain ⟨q, hq, hi⟩ := qFL.1 he
      obtain ⟨p, hp, hpe⟩ := qFM.1 hi
      cases hpe
      have hin : ∀ x ∈ vo 0 args, x ∈ [id] := by
        rw [hids]
        intro x hx
        rcases qF6.1 hx with rfl | hx
        · simp
        · exact (ze.1 hall) x hx
      have ha' : qy C (fun k => if k = 0 then μ id else none) (renL (fun _ => 0) args) vs := ha.renm (k := 0) (L := [id]) (fun x mx hx hmx => by
        have : x = id := by rcases hx with hx | hx; · omega
                            · simpa using hx
        subst this
        simpa using hmx) hin
      refine (hO _ _ _ _ _ hq C _ w vs s ha' (h.one hrr hid) ht).mono fun v w1 ⟨C2, μ2, e1, e2, e3⟩ => ?_
      unfold qmd at hp
      split at hp
      case h_2 => cases hp
      rename_i sz' rs' l' hq2
      split at hp
      case isFalse => cases hp
      rename_i hc
      cases hp
      rw [qFJ, qFJ] at hc
      have hsz := qFO hc.1.1
      subst hsz
      obtain ⟨C3, a1, a2, a3⟩ := xb q.1.msIds e2
      have e5 := fun μ => ((e1.mono a1 (fun _ _ h => h)).frzA (xU.of a2)).fgA.free μ hc.2
      have hx := e3.trans (a3 1 (by rw [hq2]; simp)) (qFH _)
      obtain ⟨l2, hl2⟩ := qds (l := l') (b := .rows true sz' rs') q.1.msIds hc.1.2
      rw [hq2, hl2] at a2 hx
      obtain ⟨b1, b2⟩ := h.putBack hid a2 hx
      exact ⟨C3, _, e5 _, b1, b2⟩
    · -- slf
      split at he
      case h_2 => cases he
      rename_i id l hids
      split at he
      case isFalse => cases he
      rename_i hall
      split at he
      case h_2 => cases he
      rename_i d0 sz rs hid
      split at he
      case isFalse => cases he
      rename_i hrr
      rw [ze] at hrr
      obtain ⟨q, hq, hi⟩ := qFL.1 he
      obtain ⟨p, hp, hpe⟩ := qFM.1 hi
      cases hpe
      have hin : ∀ x ∈ vo 0 args, x ∈ [id] := by
        rw [hids]
        intro x hx
        rcases qF6.1 hx with rfl | hx
        · simp
        · exact (ze.1 hall) x hx
      have ha' : qy C (fun k => if k = 0 then μ id else none) (renL (fun _ => 0) args) vs := ha.renm (k := 0) (L := [id]) (fun x mx hx hmx => by
        have : x = id := by rcases hx with hx | hx; · omega
                            · simpa using hx
        subst this
        simpa using hmx) hin
      refine (hO _ _ _ _ _ hq C _ w vs s ha' (h.oneS hrr hid) ht).mono fun v w1 ⟨C2, μ2, e1, e2, e3⟩ => ?_
      unfold qli at hp
      split at hp
      case h_2 => cases hp
      rename_i sz' rs' l' hq2
      split at hp
      case isFalse => cases hp
      rename_i hc
      cases hp
      rw [qFJ, qFJ, qFJ, ze] at hc
      have hsz := qFO hc.1.1.1
      subst hsz
      obtain ⟨C3, a1, a2, a3⟩ := xb q.1.msIds e2
      have e5 := fun μ => ((e1.mono a1 (fun _ _ h => h)).frzA (xU.of a2)).fgA.free μ hc.1.2
      have hx := e3.trans (a3 1 (by rw [hq2]; simp)) (qFH _)
      obtain ⟨l2, hl2⟩ := qds (l := l') (b := .rows false sz' rs') q.1.msIds hc.1.1.2
      rw [hq2, hl2] at a2 hx
      obtain ⟨b1, b2⟩ := h.putBackS hid hc.2 a2 hx
      exact ⟨C3, _, e5 _, b1, b2⟩
    · -- rgn
      split at he
      case isFalse => cases he
      rename_i hfree
      obtain ⟨q, hq, hi⟩ := qFL.1 he
      obtain ⟨V, hV, hi⟩ := qFL.1 hi
      obtain ⟨p, hp, hpe⟩ := qFM.1 hi
      cases hpe
      exact (hO _ _ _ _ _ hq C (fun _ => none) w vs s (ha.fg.free _ hfree) h.nil ht).mono fun v w1 ⟨C2, μ2, e1, e2, e3⟩ => qpL h e2 e3 e1 hV hp
    · -- over
      split at he
      case h_2 => cases he
      rename_i a
      split at he
      case h_2 => cases he
      rename_i id l hids
      split at he
      case isFalse => cases he
      rename_i hall
      split at he
      · rename_i hid
        obtain ⟨u, hu, hpe⟩ := qFM.1 he
        cases hpe
        exact qlF hO ha h ht hids hall (.inl rfl) hid hu
      · rename_i hid
        obtain ⟨u, hu, hpe⟩ := qFM.1 he
        cases hpe
        have := qlF hO ha h ht hids hall (.inr rfl) hid hu
        rw [qAw hid] at this
        exact this
      · cases he
theorem qkf[Lent]{cfg:Cfg}{cf:Orac}(hO:qaj cfg cf){nid:Option Nat}{t:Tgt}{args:List AV}{vs:Array Value}{s:Sem Next}{r:AV}(ha:qy C μ args vs)(h:Wld C μ H w)(ht:qvw μ t vs s)(he:yA cfg cf nid t args H=some (r,H')):vB cfg.P s w (vY C μ H w r H'):=by
 unfold yA at he;split at he
 ·rename_i hn;split at he
  case h_2=>cases he
  rename_i a b h1 h2;split at he
  case isFalse=>cases he
  rename_i hab;cases he;have hab:=qwZ hab;have hms:∃id off,args=[.ms id off 0]:=by
   unfold qaE at hn;split at hn<;>cases hn
  obtain⟨id,off,rfl⟩:=hms;obtain⟨hl,hv⟩:=ha;have hl:vs.size=1:=hl.symm;obtain⟨v,hvs⟩:∃v,vs= #[v]:=by
   obtain⟨l⟩:=vs
   match l,hl with
   |[x],_=>exact⟨x,rfl⟩
  subst hvs;have h0:=hv 0 _ _ rfl rfl;have one:∀{x:AV},Rep C μ x v->qy C μ [x] #[v]:=fun{x} hx=>⟨rfl,λi a u h1 h2=>by
   cases i with
   |zero=>simp at h1 h2;subst h1;subst h2;exact hx
   |succ i=>simp at h1⟩
  cases h0 with
  |ms _ _ _ cap ad m hm hle had=>exact qdB hO (one (.em _ _)) h ht (by rw[h2,←hab])
  |msN _ _=>exact qdB hO (one .nilS) h ht h1
 ·exact qdB hO ha h ht he
variable {C C' C1 C2 : qk} {μ μ' μ1 : MMap} {H H' H1 : AH} {w w' w1 : World} {P : Program}
theorem vB.of_run{s s':Sem Next}{R:Value->World->Prop}(h:s.run P w=s'.run P w)(hc:vB P s' w R):vB P s w R:=by
 unfold vB at *;rw[h];exact hc
theorem qd8.callR[Lent]{s:Sem Next}{r:AV}(h:qd8 P s C μ H w r H'):vB P s w (vY C μ H w r H'):=by
 obtain⟨n,w',C',μ',h1,h2,h3,h4⟩:=h;unfold vB;rw[h1];rcases h2 with⟨v,rfl,hr⟩|⟨rfl,rfl⟩
 ·exact⟨C',μ',hr,h3,h4⟩
 ·exact⟨C',μ',.junk _,h3,h4⟩
theorem qgf{ρ:Operand->Value}{c:Call}{f:Operand}(hc:c.callee= .value f)(ty:TypeId):resolve ρ c ty=Deferred.ofValue (ρ f) (c.args.map ρ):=by
 obtain⟨callee,args,argTypes⟩:=c;simp only at hc;subst hc;rfl
theorem qsC[Lent]{cfg:Cfg}{cf:Orac}(hO:qaj cfg cf){nid:Option Nat}{o:Oper}{c:Call}{f:Operand}(ho:o.op= .call c)(hf:c.callee= .value f){x:Operand->AV}{ρ:Operand->Value}(hx:∀a,Rep C μ (x a) (ρ a))(h:Wld C μ H w){r:AV}(he:((zy (x f) (c.args.toList.map x)).bind λt=>yA cfg cf nid t.1 t.2 H)=some (r,H')):vB cfg.P (execOp ρ o) w (vY C μ H w r H'):=by
 obtain⟨t,ht,he⟩:=qFL.1 he;have hargs:∀(i:Nat) a v,(c.args.toList.map x)[i]? =some a->(c.args.toList.map ρ)[i]? =some v->Rep C μ a v:=qkB hx _;have hfv:=hx f;have hex:execOp ρ o=(do let d←Deferred.ofValue (ρ f) (c.args.map ρ);invoke d.target d.args):=by
  unfold execOp;simp only[ho];rw[←qgf hf o.type]
 unfold zy at ht;split at ht
 ·rename_i g first caps hxf;cases ht;rw[hxf]at hfv;generalize hv:ρ f=vf at hfv;cases hfv with
  |fn _ _ _ vf vc hl1 hl2 h1 h2=>
   rw[hv]at hex;refine vB.of_run (s':=callFunc g (vf.toArray++c.args.map ρ++vc.toArray)) ?_ (qkf hO (t:=.f g) (vs:=vf.toArray++c.args.map ρ++vc.toArray) ⟨by simp[hl1,hl2],λi a v e1 e2=>?_⟩ h rfl he)
   ·rw[hex];simp[Deferred.ofValue,invoke]
   ·rw[←Array.getElem?_toList]at e2;simp only[Array.toList_append,Array.toList_map]at e2;have hl3:(c.args.toList.map x).length=(c.args.toList.map ρ).length:=by simp
    rcases Nat.lt_or_ge i (first.length+(c.args.toList.map x).length)with hlt|hge
    ·rw[qFX (by simpa using hlt)]at e1;rw[qFX (by simp only[qFU];omega)]at e2;rcases Nat.lt_or_ge i first.length with hlt'|hge'
     ·rw[qFX hlt']at e1;rw[qFX (by omega)]at e2;exact h1 i a v e1 e2
     ·rw[qF0 hge']at e1;rw[qF0 (by omega)]at e2;rw[←hl1]at e2;exact hargs _ a v e1 e2
    ·rw[qF0 (by simpa using hge)]at e1;rw[qF0 (by simp only[qFU];omega)]at e2;have:i - (vf++c.args.toList.map ρ).length=i - (first++c.args.toList.map x).length:=by simp[hl1]
     rw[this]at e2;exact h2 _ a v e1 e2
 ·rename_i id hxf;cases ht;rw[hxf]at hfv;generalize hv:ρ f=vf at hfv;cases hfv with
  |yld _ m hm=>
   rw[hv]at hex;refine vB.of_run (s':=Instr.yield m.block (c.args.map ρ)) ?_ (qkf hO (t:=.y id) (vs:=c.args.map ρ) ⟨by simp,λi a v e1 e2=>?_⟩ h ⟨m,hm,rfl⟩ he)
   ·rw[hex];simp[Deferred.ofValue,invoke]
   ·rw[←Array.getElem?_toList,Array.toList_map]at e2;exact hargs i a v e1 e2
 ·cases ht
theorem qdw[Lent]{cfg:Cfg}(hc:CfgTy cfg){cf:Orac}(hO:qaj cfg cf){frz:Bool}{nid:Option Nat}{o:Oper}{x:Operand->AV}{ρ:Operand->Value}(hx:∀a,Rep C μ (x a) (ρ a))(h:Wld C μ H w){r:AV}(he:vZ cfg cf frz nid o x H=some (r,H')):vB cfg.P (execOp ρ o) w (vY C μ H w r H'):=by
 have core:∀{C:qk} {H:AH} {x:Operand->AV},(∀a,Rep C μ (x a) (ρ a))->Wld C μ H w ->
   (match o.op with
    | .call c=>
     match c.callee with
     | .value f=>(zy (x f) (c.args.toList.map x)).bind λt=>yA cfg cf nid t.1 t.2 H
     |_=>evOp cfg nid o.op o.type x H
    |_=>evOp cfg nid o.op o.type x H)=some (r,H')->vB cfg.P (execOp ρ o) w (vY C μ H w r H'):=by
  intro C H x hx h he;split at he
  ·rename_i c ho;split at he
   ·rename_i f hf;exact qsC hO ho hf hx h he
   ·exact(qmo hc h hx he).callR
  ·exact(qmo hc h hx he).callR
 unfold vZ at he;split at he
 ·obtain⟨C1,a1,a2,a3⟩:=xb (o.op.operands.toList.flatMap λa=>(x a).msIds) h;have hx1:∀a,Rep C1 μ ((x a).frz (o.op.operands.toList.flatMap λa=>(x a).msIds) H) (ρ a):=λa=>((hx a).mono a1 (λ_ _ h=>h)).frzA (xU.of a2)
  refine(core (x:=λa=>(x a).frz (o.op.operands.toList.flatMap λa=>(x a).msIds) H) hx1 a2 he).mono λv w1 ⟨C2,μ2,e1,e2,e3⟩=>⟨C2,μ2,e1,e2,?_⟩
  have:=(a3 _ (qFH _)).trans e3 (by rw[qb5];exact qFH _);exact this
 ·exact core hx h he
def zJ(F:Fence):Prop:=F=Fence.wide∨∃l,F=Fence.wide.inRound l
theorem zJ.fn{F:Fence}(h:zJ F)(f:FuncId):F.fn f:=by
 rcases h with rfl|⟨l,rfl⟩<;>trivial
theorem zJ.depth{F:Fence}(h:zJ F):F.depth=none:=by
 rcases h with rfl|⟨l,rfl⟩<;>rfl
theorem zJ.calls{F:Fence}(h:zJ F){f:FuncId}{args:Array Value}{R:Ending->World->Prop}(hc:CallsIn Fence.wide 0 P f args w R):CallsIn F (0 - 1) P f args w R:=by
 rcases h with rfl|⟨l,rfl⟩
 ·exact hc
 ·exact hc
theorem zJ.rounds{F:Fence}(h:zJ F){l f:Nat}{t:Array Value}{al bd:Code}{R:Ending->World->Prop}(hc:RoundIn Fence.wide 0 P l f t al bd w R):RoundIn F (0 - 1) P l f t al bd w R:=by
 rcases h with rfl|⟨l,rfl⟩
 ·exact hc
 ·exact hc
theorem qhv{F:Fence}(hF:zJ F){o:Oper}{a:Act}{next:Act->World->Prop}{Q:Exit->Act->World->Prop}(h:vB P (execOp a.eval o) w λv w'=>next (a.put o.dst v) w'):o.wpIn F 0 P a w next Q:=by
 have hd:∀c,o.op≠.defer c:=by
  intro c hc;unfold vB execOp at h;simp only[hc,Sem.run_bind]at h;generalize (resolve a.eval c o.type).run P w=x at h;cases x with
  |ok d w'=>simp[Result.andThen,Sem.run_pure]at h
  |halt _ _=>simp[Result.andThen]at h
 refine⟨λf _=>hF.fn f,?_⟩;rw[Oper.semAt_eq _ _ _ hd];unfold vB at h;generalize (execOp a.eval o).run P w=x at h;cases x with
 |ok n w'=>
  cases n<;>simp only at h<;>first|exact h|exact h.elim|skip
  ·exact⟨λhh=>by rw[hF.depth]at hh;simp at hh,hF.calls (h.mono λe w'' ⟨v,h1,h2⟩=>by subst h1;exact h2)⟩
  ·exact⟨λhh=>by rw[hF.depth]at hh;simp at hh,hF.rounds (h.mono λe w'' ⟨v,h1,h2⟩=>by subst h1;exact h2)⟩
 |halt _ _=>exact h.elim
theorem qbI[Lent]{fr:List AV}{a:Act}(hf:qy C μ fr a.tmps)(o:Operand):Rep C μ (opd fr o) (a.eval o):=by
 cases o with
 |tmp t=>
  show Rep C μ (fr.getD t .junk) (a.tmps.getD t undef);rcases Nat.lt_or_ge t fr.length with h|h
  ·have h':t<a.tmps.size:=by rw[←hf.1];exact h
   rw[List.getD_eq_getElem?_getD,qFE h,Array.getD_eq_getD_getElem?,Array.getElem?_eq_getElem h'];exact hf.2 t _ _ (qFE h) (Array.getElem?_eq_getElem h')
  ·rw[List.getD_eq_getElem?_getD,List.getElem?_eq_none h];exact .junk _
 |const v=>exact qjS v
 |global g=>exact .junk _
 |func f=>
  have:=Rep.fn (C:=C) (μ:=μ) (.func f) [] [] [] [] rfl rfl (λi a v h=>by simp at h) (λi a v h=>by simp at h);exact this
theorem qhn[Lent]:Rep C μ (.tup []) undef:=Rep.tup (C:=C) (μ:=μ) [] [] rfl (λi a v h=>by simp at h)
theorem qbG[Lent]{fr:List AV}{a:Act}{dst:Option Tmp}{r:AV}{v:Value}(hf:qy C μ fr a.tmps)(hr:Rep C μ r v):qy C μ (put fr dst r) (a.put dst v).tmps:=by
 cases dst with
 |none=>exact hf
 |some d=>
  refine⟨by simp[put,Act.put,hf.1],λi x u h1 h2=>?_⟩;simp only[put,qF1]at h1;simp only[Act.put,Array.getElem?_setIfInBounds]at h2
  by_cases e:d=i
  ·subst e;rw[qGq rfl]at h1 h2;split at h1
   ·split at h2
    ·cases h1;cases h2;exact hr
    ·cases h2
   ·cases h1
  ·rw[qGr e]at h1 h2;exact hf.2 i x u h1 h2
theorem qaq{a:Act}{dst:Option Tmp}{v:Value}:(a.put dst v).defers=a.defers:=by cases dst<;>rfl
theorem qda[Lent]{fr:List AV}{a:Act}{ops:Array Oper}{o:Oper}{b:Bool}(hf:qy C μ fr a.tmps)(h:y7 ops fr o=some b):Region.wanted o (yielded ops a.tmps)=b:=by
 unfold y7 at h;unfold Region.wanted;split at h
 ·rename_i hg;rw[hg];simpa using h
 ·rename_i j want hg;rw[hg];simp only;split at h
  ·rename_i d hd;split at h
   ·rename_i b' hb;cases h;have hlt:d<a.tmps.size:=by rw[←hf.1];exact(qFF.1 hb).1
    have hr:=hf.2 d _ _ hb (Array.getElem?_eq_getElem hlt);generalize hv:a.tmps[d]=v at hr;cases hr;have hs:a.tmps[d]? =some (.bool b'):=by rw[Array.getElem?_eq_getElem hlt,hv]
    unfold yielded;rw[hd];simp only[qGa,hs];cases b'<;>cases want<;>rfl
   ·rename_i hb;cases h;have hlt:d<a.tmps.size:=by rw[←hf.1];exact(qFF.1 hb).1
    have hr:=hf.2 d _ _ hb (Array.getElem?_eq_getElem hlt);generalize hv:a.tmps[d]=v at hr;cases hr with
    |tup cs vs hl hh=>
     have hs:a.tmps[d]? =some (.tuple vs.toArray):=by rw[Array.getElem?_eq_getElem hlt,hv]
     unfold yielded;rw[hd];simp only[qGa,hs];rfl
   ·cases h
  ·cases h
theorem qer[Lent]{cfg:Cfg}(hc:CfgTy cfg){cf:Orac}(hO:qaj cfg cf){F:Fence}(hF:zJ F){f rid:Nat}{ops:Array Oper}{Q:Exit->Act->World->Prop}{fr':List AV}:∀(rest:List Oper) (k:Nat) {fr:List AV} {H:AH} {C:qk} {μ:MMap} {w:World} {a:Act},
  qb8 cfg cf f rid ops k rest fr H=some (fr',H')->(∀i,rest[i]? =ops[k+i]?)->qy C μ fr a.tmps->Wld C μ H w ->
  (∀C' μ' w' a',qy C' μ' fr' a'.tmps->Wld C' μ' H' w'->Ext H.length C μ H w C' μ' H' w'->a'.defers=a.defers->Q .normal a' w')->wpOpsIn F 0 cfg.P ops Q (List.range' k rest.length) a w
 |[],k,fr,H,C,μ,w,a,he,hi,hf,hw,hq=>by
  simp only[qb8]at he;cases he;exact hq C μ w a hf hw (Ext.refl (qFH _)) rfl
 |o::rest,k,fr,H,C,μ,w,a,he,hi,hf,hw,hq=>by
  simp only[qb8]at he;obtain⟨b,hb,he⟩:=qFL.1 he;have hok:ops[k]? =some o:=by have:=hi 0;simpa using this.symm
  have hi':∀i,rest[i]? =ops[k+1+i]? :=λi=>by have:=hi (i+1);rw[List.getElem?_cons_succ]at this;rw[this];congr 1;omega
  have hwan:=qda hf hb;simp only[qGf,List.range'_succ,wpOpsIn,hok];split at he
  ·rename_i hbt;rw[hbt]at hwan;rw[qGq hwan];obtain⟨q,hqe,he⟩:=qFL.1 he;refine qhv hF ((qdw hc hO (qbI hf) hw hqe).mono λv w1 ⟨C1,μ1,e1,e2,e3⟩=>?_);have hf1:qy C1 μ1 fr a.tmps:=hf.monoG e3.cl (λid m hm=>e3.mu id m (hw.dom id m hm) hm);refine qer hc hO hF rest (k+1) he hi' (qbG hf1 e1) e2 λC' μ' w' a' g1 g2 g3 g4=>hq C' μ' w' a' g1 g2 (e3.trans g3 e3.len) (by rw[g4,qaq])
  ·rename_i hbt;have hbf:b=false:=by simpa using hbt
   rw[hbf]at hwan;rw[qGr (by rw[hwan];simp)];refine⟨λf _=>hF.fn f,?_⟩;exact qer hc hO hF rest (k+1) he hi' (qbG hf qhn) hw λC' μ' w' a' g1 g2 g3 g4=>hq C' μ' w' a' g1 g2 g3 (by rw[g4,qaq])
variable {H H' H2 : AH}
theorem qhz{x y:Operand->AV}{l:List Operand}(h:∀a∈l,x a=y a):l.map x=l.map y:=List.map_congr_left h
theorem qlN{x y:Operand->AV}{l:List (Nat×Operand)}(h:∀a∈l.map (·.2),x a=y a):(l.map λp=>(p.1,x p.2))=l.map λp=>(p.1,y p.2):=
 List.map_congr_left λp hp=>by rw[h p.2 (List.mem_map.2 ⟨p,hp,rfl⟩)]
theorem qhu{x y:Operand->AV}{o:Option Operand}(h:∀a∈o.toArray,x a=y a):o.map x=o.map y:=by
 cases o with
 |none=>rfl
 |some a=>simp only[qGc];rw[h a (by simp)]
theorem qu2{cfg:Cfg}{nid:Option Nat}{op:Op}{ty:TypeId}{x y:Operand->AV}(h:∀a∈op.operands,x a=y a):evOp cfg nid op ty x H=evOp cfg nid op ty y H:=by
 cases op with
 |move a|assign a|box _ a|load _ a|nilCheck a|unOp _ _ a|convert _ _ a|fieldAddr _ a _|field _ a _|extract a _=>
  have:=h a (by simp[Op.operands]);simp only[evOp,this]
 |pick c a b=>
  have h1:=h c (by simp[Op.operands]);have h2:=h a (by simp[Op.operands]);have h3:=h b (by simp[Op.operands]);simp only[evOp,h1,h2,h3]
 |store _ a b|binOp _ _ a b _|makeSlice _ a b|indexAddr _ a b|index _ a b|lookup _ a b _=>
  have h1:=h a (by simp[Op.operands]);have h2:=h b (by simp[Op.operands]);simp only[evOp,h1,h2]
 |mapUpdate _ a b c|insert _ a b c=>
  have h1:=h a (by simp[Op.operands]);have h2:=h b (by simp[Op.operands]);have h3:=h c (by simp[Op.operands]);simp only[evOp,h1,h2,h3]
 |makeMap _ r=>
  cases r with
  |none=>rfl
  |some a=>
   have h1:=h a (by simp[Op.operands]);simp only[evOp,h1]
 |build _ ps=>
  have:=qlN (x:=x) (y:=y) (l:=ps.toList) (λa ha=>h a (by simp only[Op.operands,List.mem_toArray];exact ha));simp only[evOp,this]
 |buildSlice _ _ ps=>
  have:=qlN (x:=x) (y:=y) (l:=ps.toList) (λa ha=>h a (by simp only[Op.operands,List.mem_toArray];exact ha));simp only[evOp,this]
 |makeFunc f p q=>
  have h1:=qhz (x:=x) (y:=y) (l:=p.toList) (λa ha=>h a (by simp only[Op.operands,Array.mem_append];exact .inl (Array.mem_toList_iff.1 ha)));have h2:=qhz (x:=x) (y:=y) (l:=q.toList) (λa ha=>h a (by simp only[Op.operands,Array.mem_append];exact .inr (Array.mem_toList_iff.1 ha)));simp only[evOp,h1,h2]
 |slice _ a l hi m=>
  have h1:=h a (by simp[Op.operands]);have h2:=qhu (x:=x) (y:=y) (o:=l) (λa ha=>h a (by simp only[Op.operands,Array.mem_append];simp[ha]));have h3:=qhu (x:=x) (y:=y) (o:=hi) (λa ha=>h a (by simp only[Op.operands,Array.mem_append];simp[ha]));have h4:=qhu (x:=x) (y:=y) (o:=m) (λa ha=>h a (by simp only[Op.operands,Array.mem_append];simp[ha]));simp only[evOp,h1,h2,h3,h4]
 |call c=>
  have hm:∀a∈c.args.toList,x a=y a:=λa ha=>h a (by simp only[Op.operands,Call.operands,Array.mem_append];exact .inr (Array.mem_toList_iff.1 ha))
  obtain⟨callee,args,argTypes⟩:=c;simp only at hm;simp only[evOp];generalize args.toList=l at hm;generalize argTypes.toList=ts;clear h;split
  ·rw[hm _ (by simp)]
  ·rw[hm _ (by simp)]
  ·rw[hm _ (by simp),hm _ (by simp)]
  ·rw[hm _ (by simp),hm _ (by simp)]
  ·rw[hm _ (by simp)]
  ·rw[hm _ (by simp),hm _ (by simp)]
  ·rw[hm _ (by simp),hm _ (by simp)]
  ·rfl
 |_=>rfl
theorem qhU{cfg:Cfg}{cf:Orac}{frz:Bool}{nid:Option Nat}{o:Oper}{x y:Operand->AV}(h:∀a∈o.op.operands,x a=y a):vZ cfg cf frz nid o x H=vZ cfg cf frz nid o y H:=by
 have hids:(o.op.operands.toList.flatMap λa=>(x a).msIds)=o.op.operands.toList.flatMap λa=>(y a).msIds:=by
  have:(o.op.operands.toList.map λa=>(x a).msIds)=o.op.operands.toList.map λa=>(y a).msIds:=List.map_congr_left λa ha=>by rw[h a (Array.mem_toList_iff.1 ha)]
  rw[List.flatMap_def,List.flatMap_def,this]
 have core:∀{x y:Operand->AV} {H:AH},(∀a∈o.op.operands,x a=y a) ->
   (match o.op with
    | .call c=>
     match c.callee with
     | .value f=>(zy (x f) (c.args.toList.map x)).bind λt=>yA cfg cf nid t.1 t.2 H
     |_=>evOp cfg nid o.op o.type x H
    |_=>evOp cfg nid o.op o.type x H) =
   (match o.op with
    | .call c=>
     match c.callee with
     | .value f=>(zy (y f) (c.args.toList.map y)).bind λt=>yA cfg cf nid t.1 t.2 H
     |_=>evOp cfg nid o.op o.type y H
    |_=>evOp cfg nid o.op o.type y H):=by
  intro x y H h;rw[qu2 h];split
  ·rename_i c ho;split
   ·rename_i f hf;have h1:x f=y f:=h f (by rw[ho];simp[Op.operands,Call.operands,hf]);have h2:=qhz (x:=x) (y:=y) (l:=c.args.toList) (λa ha=>h a (by rw[ho];simp only[Op.operands,Call.operands,Array.mem_append];exact .inr (Array.mem_toList_iff.1 ha)));rw[h1,h2]
   ·rfl
  ·rfl
 unfold vZ;cases frz with
 |false=>simp only[qF5,if_false];exact core h
 |true=>
  simp only[if_true];rw[hids];exact core (λa ha=>by rw[h a ha])
theorem zm{id:Nat}(h:H2[id]? =H[id]?):vg H2 id=vg H id:=by unfold vg;rw[h]
theorem qeu{id:Nat}(h:H2[id]? =H[id]?):xT H2 id=xT H id:=by unfold xT;rw[h]
theorem qrx{p:AV}(h:∀id∈p.hid,H2[id]? =H[id]?):x7 H2 p=x7 H p:=by
 cases p with
 |ms id off len=>simp only[x7];rw[qeu (h id (by simp[AV.hid]))]
 |_=>rfl
theorem qsJ{cfg:Cfg}{t:TypeId}{p k:AV}{ok:Bool}(h:∀id∈p.hid,H2[id]? =H[id]?):qaB cfg t p k ok H2=qaB cfg t p k ok H:=by
 have:qdV H2 p=qdV H p:=by
  unfold qdV;split
  ·rfl
  ·rename_i id;rw[h id (by simp[AV.hid])]
  ·rfl
 unfold qaB;rw[this]
theorem qxq{agg:Bool}{n:Nat}{p:AV}(h:∀id∈p.hid,H2[id]? =H[id]?):qaC agg n H2 p=qaC agg n H p:=by
 unfold qaC;split
 ·rename_i id r off;rw[zm (h id (by simp[AV.hid]))]
 ·rfl
 ·rfl
 ·rename_i id cs off;rw[h id (by simp[AV.hid])]
 ·rfl
theorem qlp{n:Nat}{p:AV}(h:∀id∈p.hid,H2[id]? =H[id]?):yH H2 n p=yH H n p:=by
 unfold yH;split
 ·rfl
 ·rfl
 ·rfl
 ·rename_i id off len;rw[zm (h id (by simp[AV.hid]))]
 ·rfl
theorem qrw{n:Nat}{p:AV}(h:∀id∈p.hid,H2[id]? =H[id]?):yv H2 n p=yv H n p:=by
 unfold yv;split
 ·rfl
 ·exact qlp h
theorem qnA{cfg:Cfg}{t:TypeId}{p i:AV}(h:∀id∈p.hid,H2[id]? =H[id]?):zg cfg t H2 p i=zg cfg t H p i:=by
 unfold zg;split
 ·rename_i id _ _ _ _ _;rw[zm (h id (by simp[AV.hid]))]
 all_goals rfl
theorem qqv{p:AV}{id:Nat}(h:id∈p.unwr.hid):id∈p.hid:=by
 cases p with
 |wr n v=>cases v<;>first|exact h|(simp[AV.unwr,AV.hid]at h)
 |_=>exact h
theorem qvs{cfg:Cfg}{t:TypeId}{p:AV}{lo hi mx:Option AV}(h:∀id∈p.hid,H2[id]? =H[id]?):qcr cfg t H2 p lo hi mx=qcr cfg t H p lo hi mx:=by
 unfold qcr;split
 ·rfl
 ·rfl
 ·rfl
 ·rename_i id off len _;rw[zm (h id (by simp[AV.hid]))]
 ·rfl
 ·rfl
theorem qzj{cfg:Cfg}{t:TypeId}{p:AV}(h:∀id∈p.hid,H2[id]? =H[id]?):aLen cfg t p H2=aLen cfg t p H:=by
 unfold aLen;split<;>first|rfl|skip
 rename_i id _;rw[h id (by simp[AV.hid])]
theorem qdI{p:AV}(h:∀id∈p.hid,H2[id]? =H[id]?):p.snap1 H2=p.snap1 H:=by
 cases p with
 |ms id off len=>simp only[AV.snap1,AV.frz1];rw[zm (h id (by simp[AV.hid])),qeu (h id (by simp[AV.hid]))]
 |ptr id r off=>simp only[AV.snap1];rw[zm (h id (by simp[AV.hid]))]
 |rsl id rows=>simp only[AV.snap1];rw[h id (by simp[AV.hid])]
 |_=>rfl
theorem qfo{l:List AV}(h:∀id∈l.flatMap AV.hid,H2[id]? =H[id]?):l.map (AV.snap1 H2)=l.map (AV.snap1 H):=
 List.map_congr_left λp hp=>qdI λid hi=>h id (List.mem_flatMap.2 ⟨p,hp,hi⟩)
theorem qx1{p:AV}(h:∀id∈p.hids,H2[id]? =H[id]?):p.snap H2=p.snap H:=by
 cases p with
 |agg cs=>simp only[AV.snap];rw[qfo (λid hi=>h id (by simpa [AV.hids]using hi))]
 |fn f a b=>simp only[AV.snap];rw[qfo (λid hi=>h id (by simp only[AV.hids,qF8];exact .inl hi)),qfo (λid hi=>h id (by simp only[AV.hids,qF8];exact .inr hi))]
 |ms id off len=>exact qdI (p:=.ms id off len) h
 |ptr id r off=>exact qdI (p:=.ptr id r off) h
 |rsl id rows=>exact qdI (p:=.rsl id rows) h
 |_=>rfl
def Upd(wr:List Nat)(H2 H' H2':AH):Prop:=H2'.length=H2.length∧∀id,H2'[id]? =if id∈wr then H'[id]? else H2[id]?
theorem Upd.same{wr:List Nat}(h:∀id∈wr,H2[id]? =H[id]?):Upd wr H2 H H2:=⟨rfl,λid=>by
 split
 ·rename_i hi;exact h id hi
 ·rfl⟩
theorem Upd.set{wr:List Nat}(h:∀id∈wr,H2[id]? =H[id]?)(hl:H2.length=H.length){k:Nat}{b:ABlk}(hk:k∈wr):Upd wr H2 (H.set k b) (H2.set k b):=⟨by simp,λid=>by
 by_cases e:k=id
 ·subst e;rw[qGq hk,qF1,qF1,qGq rfl,qGq rfl,hl]
 ·rw[qF1,qGr e,qF1,qGr e];split
  ·rename_i hi;exact h id hi
  ·rfl⟩
theorem xY{g g2:Option AV}{r:AV}{wr:List Nat}(he:(g.map λv=>(v,H))=some (r,H'))(hg:g2=g)(h:∀id∈wr,H2[id]? =H[id]?):∃H2',(g2.map λv=>(v,H2))=some (r,H2')∧Upd wr H2 H' H2':=by
 subst hg;obtain⟨v,hv,e⟩:=qFM.1 he;cases e;exact⟨H2,by rw[hv];rfl,Upd.same h⟩
theorem qau{at_ k:Nat}{b:ABlk}{wr:List Nat}(hn:aNew (some at_) H b=some (k,H'))(h:∀id∈wr,H2[id]? =H[id]?)(hl:H2.length=H.length)(hk:at_∈wr):∃H2',aNew (some at_) H2 b=some (k,H2')∧Upd wr H2 H' H2':=by
 unfold aNew at hn⊢;simp only at hn⊢;rw[h _ hk];split at hn
 ·cases hn;exact⟨_,rfl,Upd.set h hl hk⟩
 ·cases hn
variable {H H' H2 : AH}
theorem Upd.of_set{wr:List Nat}{k:Nat}{b:ABlk}{H2':AH}(h:Upd wr (H2.set k b) H' H2')(hk:k∈wr):Upd wr H2 H' H2':=⟨by rw[h.1];simp,λid=>by
 rw[h.2 id];split
 ·rfl
 ·rename_i hi;rw[qF1,qGr];intro e;subst e;exact hi hk⟩
theorem qq6{n:Nat}{p v:AV}(he:qcq n H p v=some H')(h:∀id∈p.hid,H2[id]? =H[id]?)(hl:H2.length=H.length):∃H2',qcq n H2 p v=some H2'∧Upd p.hid H2 H' H2':=by
 unfold qcq at he⊢;split at he
 ·rename_i id r off cs hv;have hid:id∈(AV.ptr id r off).hid:=by simp[AV.hid]
  rw[h id hid];split at he
  ·rename_i sz rs _;split at he
   ·rename_i row hrow;split at he
    ·rename_i hc;cases he;simp only[hc,if_true];exact⟨_,rfl,Upd.set h hl hid⟩
    ·cases he
   ·cases he
  ·cases he
 ·rename_i id cs off cs' hv;have hid:id∈(AV.rpt id cs off).hid:=by simp[AV.hid]
  rw[h id hid];split at he
  ·split at he
   ·rename_i hc;cases he;rw[qGq hc];exact⟨_,rfl,Upd.same h⟩
   ·rename_i hc0;split at he
    ·rename_i hc;cases he;rw[qGr hc0,qGq hc];exact⟨_,rfl,Upd.same h⟩
    ·cases he
  ·cases he
 ·cases he
theorem qnC{cfg:Cfg}{at_:Nat}{s d:TypeId}{x r:AV}{wr:List Nat}(he:qai cfg (some at_) s d x H=some (r,H'))(h:∀id∈x.hid,H2[id]? =H[id]?)(hwr:∀id∈wr,H2[id]? =H[id]?)(hl:H2.length=H.length)(hk:at_∈wr):
  ∃H2',qai cfg (some at_) s d x H2=some (r,H2')∧Upd wr H2 H' H2':=by
 unfold qai at he⊢;split at he
 ·cases he;exact⟨H2,rfl,Upd.same hwr⟩
 ·cases he;exact⟨H2,rfl,Upd.same hwr⟩
 ·rename_i sd e t hs hd;split at he
  ·rename_i hte;split at he
   ·rename_i k H1 hnew;cases he;obtain⟨H2',e1,e2⟩:=qau hnew hwr hl hk;simp only[e1];exact⟨H2',rfl,e2⟩
   ·cases he
  ·cases he
 ·rename_i e hs hd hne;split at he
  ·rename_i rows hte hrows;rw[qlp h];split at he
   ·rename_i bs hbs;cases he;exact⟨H2,by simp only[hte,hrows,hbs],Upd.same hwr⟩
   ·cases he
  ·cases he
 ·cases he
theorem qkl{cfg:Cfg}{at_:Nat}{t:TypeId}{l c r:AV}{wr:List Nat}(he:qcb cfg (some at_) t l c H=some (r,H'))(hwr:∀id∈wr,H2[id]? =H[id]?)(hl:H2.length=H.length)(hk:at_∈wr):
  ∃H2',qcb cfg (some at_) t l c H2=some (r,H2')∧Upd wr H2 H' H2':=by
 unfold qcb at he⊢;split at he
 ·split at he
  ·split at he
   ·rename_i h1;split at he
    ·rename_i h2;split at he
     ·rename_i k H1 hnew;cases he;obtain⟨H2',e1,e2⟩:=qau hnew hwr hl hk;simp only[h1,if_true,h2,e1];exact⟨H2',by simp,e2⟩
     ·cases he
    ·cases he
   ·cases he
  ·cases he
 ·cases he
theorem qq9{cfg:Cfg}{at_:Nat}{t:TypeId}{l c r:AV}{wr:List Nat}(he:qcs cfg (some at_) t l c H=some (r,H'))(hwr:∀id∈wr,H2[id]? =H[id]?)(hl:H2.length=H.length)(hk:at_∈wr):
  ∃H2',qcs cfg (some at_) t l c H2=some (r,H2')∧Upd wr H2 H' H2':=by
 unfold qcs at he⊢;split at he
 ·exact qkl he hwr hl hk
 ·split at he
  ·split at he
   ·rename_i hn;rw[qGq hn];obtain⟨q,hq,hw⟩:=qFL.1 he;obtain⟨v,H1⟩:=q;obtain⟨H2',e1,e2⟩:=qkl hq hwr hl hk;rw[e1];unfold qtt at hw;split at hw
    ·rename_i id off len H0 e;cases e;cases hw;exact⟨H2',rfl,e2⟩
    ·cases hw
   ·cases he
  ·cases he
theorem qoQ{cfg:Cfg}{at_:Nat}{t xt:TypeId}{s x r:AV}{wr:List Nat}(he:qbb cfg (some at_) t xt s x H=some (r,H'))(hx:∀id∈x.hid,H2[id]? =H[id]?)(hwr:∀id∈wr,H2[id]? =H[id]?)(hl:H2.length=H.length)(hk:at_∈wr)(hs:∀id∈s.hid,id∈wr):∃H2',qbb cfg (some at_) t xt s x H2=some (r,H2')∧Upd wr H2 H' H2':=by
 unfold qbb at he⊢;split at he
 case h_2=>cases he
 split at he
 case h_2=>cases he
 split at he
 case isFalse=>cases he
 rename_i h1;rw[qGq h1,qrw hx,qrx hx];split at he
 case h_2=>cases he
 split at he
 ·split at he
  ·rename_i h2;cases he;rw[qGq h2];exact⟨H2,rfl,Upd.same hwr⟩
  ·rename_i h2;rw[qGr h2];split at he
   ·rename_i h3;rw[qGq h3];split at he
    ·rename_i k H1 hnew;cases he;obtain⟨H2',e1,e2⟩:=qau hnew hwr hl hk;simp only[e1];exact⟨H2',rfl,e2⟩
    ·cases he
   ·cases he
 ·rename_i id off len;have hid:id∈wr:=hs id (by simp[AV.hid]);rw[hwr id hid];split at he
  ·rename_i sz rs _;split at he
   ·rename_i h2;rw[qGq h2];split at he
    ·rename_i k H1 hnew;cases he;obtain⟨H2',e1,e2⟩:=qau (H2:=H2.set id .dead) hnew (λj hj=>by
      rw[qF1,qF1];split
      ·rw[hl]
      ·exact hwr j hj) (by simpa using hl) hk
     simp only[e1];exact⟨H2',rfl,e2.of_set hid⟩
    ·cases he
   ·cases he
  ·cases he
 ·cases he
theorem qlE{at_:Nat}{G:AH}{a r:AV}(he:za (some at_) G a H=some (r,H'))(hl:H2.length=H.length)(hwr:∀id∈[at_],H2[id]? =H[id]?):∃H2',za (some at_) G a H2=some (r,H2')∧Upd [at_] H2 H' H2':=by
 unfold za at he⊢;split at he
 ·split at he
  ·split at he
   ·rename_i h2;rw[qGq h2];split at he
    ·rename_i k H1 hnew;cases he;obtain⟨H2',e1,e2⟩:=qau hnew hwr hl (by simp);simp only[e1];exact⟨H2',rfl,e2⟩
    ·cases he
   ·cases he
  ·cases he
 ·split at he
  ·rename_i h2;cases he;rw[qGq h2];exact⟨H2,rfl,Upd.same hwr⟩
  ·cases he
theorem Upd.mono{wr wr':List Nat}{H2':AH}(h:Upd wr H2 H' H2')(hs:∀id∈wr,id∈wr')(hr:∀id∈wr',H2[id]? =H'[id]? ∨id∈wr):Upd wr' H2 H' H2':=⟨h.1,λid=>by
 rw[h.2 id]
 by_cases hi:id∈wr
 ·rw[qGq hi,qGq (hs id hi)]
 ·rw[qGr hi]
  by_cases hi':id∈wr'
  ·rw[qGq hi'];exact(hr id hi').resolve_right hi
  ·rw[qGr hi']⟩
theorem qq1{cfg:Cfg}{cf:Orac}{at_:Nat}{t:Tgt}{args:List AV}{r:AV}(he:vA cfg cf (some at_) t args H=some (r,H'))(hw:(qaz cfg at_ t args H).wall=false)(hl:H2.length=H.length)(hr:∀id∈(qaz cfg at_ t args H).rd,H2[id]? =H[id]?)(hwr:∀id∈(qaz cfg at_ t args H).wr,H2[id]? =H[id]?):∃H2',vA cfg cf (some at_) t args H2=some (r,H2')∧Upd (qaz cfg at_ t args H).wr H2 H' H2':=by
 cases t with
 |y id=>simp[qaz]at hw
 |f f=>
  simp only[qaz,vA]at *;cases hm:cfg.mode f with
  |scal=>
   simp only[hm]at *;have hs:(args.map λa=>(a.snap H2).fg)=(args.map λa=>(a.snap H).fg):=List.map_congr_left λp hp=>by rw[qx1 λid hi=>hr id (List.mem_flatMap.2 ⟨p,hp,hi⟩)]
   rw[hs];split at he
   case isFalse=>cases he
   rename_i h1;rw[qGq h1];obtain⟨q,hq,he⟩:=qFL.1 he;rw[hq];split at he
   case isFalse=>cases he
   rename_i h2;cases he;exact⟨H2,by simp[h2],Upd.same hwr⟩
  |pfrz=>
   simp only[hm]at *;split at he
   case isFalse=>cases he
   rename_i h1;rw[qGq h1];obtain⟨q,hq,he⟩:=qFL.1 he;rw[hq];split at he
   case isFalse=>cases he
   rename_i h2;cases he;exact⟨H2,by simp[h2],Upd.same (λid hi=>by simp[FP.none]at hi)⟩
  |nfrz=>
   simp only[hm]at *;split at he
   case isFalse=>cases he
   rename_i h1;rw[qGq h1];obtain⟨q,hq,he⟩:=qFL.1 he;rw[hq];obtain⟨V,hV,hpe⟩:=qFM.1 he;cases hpe;exact⟨H2,by simp[hV],Upd.same (λid hi=>by simp[FP.none]at hi)⟩
  |pown=>
   simp only[hm]at *;split at he
   case isFalse=>cases he
   rename_i h1;rw[qGq h1];obtain⟨q,hq,he⟩:=qFL.1 he;rw[hq];simp only[qGa];unfold qdi at he⊢;split at he
   ·split at he
    case isFalse=>cases he
    rename_i hsc;rw[qGq hsc];obtain⟨p,hp,hpe⟩:=qFM.1 he;cases hpe;obtain⟨H2',e1,e2⟩:=qlE hp hl hwr;rw[e1];exact⟨H2',rfl,e2⟩
   ·exact qlE he hl hwr
  |slf=>
   simp only[hm]at *;split at he
   case h_2=>cases he
   rename_i id l hids;simp only[hids]at hwr⊢;split at he
   case isFalse=>cases he
   rename_i h1;rw[qGq h1,hwr id (by simp)];split at he
   case h_2=>cases he
   rename_i d sz rs hid
   try simp only[hid]
   split at he
   case isFalse=>cases he
   rename_i h2;rw[qGq h2];obtain⟨q,hq,he⟩:=qFL.1 he;rw[hq];obtain⟨p,hp,hpe⟩:=qFM.1 he;cases hpe;exact⟨H2.set id (.rows false sz (renR (λ_=>id) p.2)),by simp[hp],Upd.set hwr hl (by simp)⟩
  |imp=>simp[hm]at hw
  |inpl=>
   simp only[hm]at *;split at he
   case h_2=>
    rename_i hids;simp only[hids]at hwr⊢;split at he
    case isFalse=>cases he
    rename_i h1;rw[qGq h1];obtain⟨q,hq,he⟩:=qFL.1 he;rw[hq];split at he
    case isFalse=>cases he
    rename_i h2;cases he;exact⟨H2,by simp[h2],Upd.same hwr⟩
   rename_i id l hids;simp only[hids]at hwr⊢;split at he
   case isFalse=>cases he
   rename_i h1;rw[qGq h1,hwr id (by simp)];split at he
   case h_2=>cases he
   rename_i d sz rs hid
   try simp only[hid]
   split at he
   case isFalse=>cases he
   rename_i h2;rw[qGq h2];obtain⟨q,hq,he⟩:=qFL.1 he;rw[hq];obtain⟨p,hp,hpe⟩:=qFM.1 he;cases hpe;exact⟨H2.set id (.rows true sz p.2),by simp[hp],Upd.set hwr hl (by simp)⟩
  |inpf=>
   simp only[hm]at *;split at he
   case h_2=>cases he
   rename_i id l hids;simp only[hids]at hwr⊢;split at he
   case isFalse=>cases he
   rename_i h1;rw[qGq h1,hwr id (by simp)];split at he
   case h_2=>cases he
   rename_i d sz rs hid
   try simp only[hid]
   split at he
   case isFalse=>cases he
   rename_i h2;rw[qGq h2];obtain⟨q,hq,he⟩:=qFL.1 he;rw[hq];obtain⟨p,hp,hpe⟩:=qFM.1 he;cases hpe;exact⟨H2.set id (.rows true sz p.2),by simp[hp],Upd.set hwr hl (by simp)⟩
  |ifrz=>simp[hm]at hw
  |rgn=>
   simp only[hm]at *;split at he
   case isFalse=>cases he
   rename_i h1;rw[qGq h1];obtain⟨q,hq,he⟩:=qFL.1 he;obtain⟨V,hV,he⟩:=qFL.1 he;obtain⟨p,hp,hpe⟩:=qFM.1 he;cases hpe;obtain⟨H2',e1,e2⟩:=qau hp hwr hl (by simp);exact⟨H2',by simp[hq,hV,e1],e2⟩
  |over=>simp[hm]at hw
theorem qsD{cfg:Cfg}{cf:Orac}{at_:Nat}{t:Tgt}{args:List AV}{r:AV}(he:yA cfg cf (some at_) t args H=some (r,H'))(hw:(qdt cfg at_ t args H).wall=false)(hl:H2.length=H.length)(hr:∀id∈(qdt cfg at_ t args H).rd,H2[id]? =H[id]?)(hwr:∀id∈(qdt cfg at_ t args H).wr,H2[id]? =H[id]?):∃H2',yA cfg cf (some at_) t args H2=some (r,H2')∧Upd (qdt cfg at_ t args H).wr H2 H' H2':=by
 unfold qdt at hw hr hwr⊢;unfold yA at he⊢;cases hn:qaE cfg t args with
 |some n=>rw[hn]at hw;cases hw
 |none=>
  rw[hn]at hw hr hwr he;exact qq1 he hw hl hr hwr
theorem qyS{ids:List Nat}{a:AV}(h:∀id∈ids,H2[id]? =H[id]?):a.frz1 ids H2=a.frz1 ids H:=by
 cases a with
 |ms id off len=>
  by_cases hi:id∈ids
  ·simp only[AV.frz1,zm (h id hi),qeu (h id hi)]
  ·have hn:yd id ids=false:=by rw[←Bool.not_eq_true,vL];exact hi
   simp only[AV.frz1,hn,Bool.false_and,qF5,if_false];cases vg H2 id<;>cases vg H id<;>rfl
 |_=>rfl
theorem qnq{ids:List Nat}{a:AV}(h:∀id∈ids,H2[id]? =H[id]?):a.frz ids H2=a.frz ids H:=by
 have:AV.frz1 ids H2=AV.frz1 ids H:=funext λ_=>qyS h
 cases a<;>simp only[AV.frz,this]
theorem qay{H:AH}{i id:Nat}:(xl H i)[id]? =if i=id then(match H[id]? with|some (.rows d sz rs)=>some (.froz d sz rs)|b=>b)else H[id]? :=by
 unfold xl;split
 ·rename_i d sz rs hi;rw[qF1]
  by_cases e:i=id
  ·subst e;have:=(qFF.1 hi).1;rw[qGq rfl,qGq this,qGq rfl,hi]
  ·rw[qGr e,qGr e]
 ·rename_i hn
  by_cases e:i=id
  ·subst e;rw[qGq rfl];split
   ·rename_i d sz rs hi;exact absurd hi (hn d sz rs)
   ·rfl
  ·rw[qGr e]
theorem qeq:∀(ids:List Nat) {H H2:AH},(∀id∈ids,H2[id]? =H[id]?)->∀id,(qV ids H2)[id]? =if id∈ids then(qV ids H)[id]? else H2[id]?
 |[],H,H2,_,id=>by simp[qV]
 |i::l,H,H2,h,id=>by
  have hi:=h i (by simp);have ih:=qeq l (H:=xl H i) (H2:=xl H2 i) (λj hj=>by
   rw[qay,qay,h j (by simp[hj])]) id
  have e1:qV (i::l) H2=qV l (xl H2 i):=rfl;have e2:qV (i::l) H=qV l (xl H i):=rfl;rw[e1,e2,ih]
  by_cases hl:id∈l
  ·rw[qGq hl,qGq (by simp[hl])]
  ·rw[qGr hl]
   by_cases e:id=i
   ·subst e;have hk:∀(l:List Nat) (H:AH),id ∉ l->(qV l H)[id]? =H[id]? :=by
     intro l
     induction l with
     |nil=>intro H _;rfl
     |cons j l ih=>
      intro H hn;show(qV l (xl H j))[id]? =_;rw[ih _ (λhm=>hn (by simp[hm])),qay,qGr (λe=>hn (by simp[e]))]
    rw[qGq (by simp),hk l _ hl,qay,qay,hi]
   ·rw[qGr (by simp[hl,e]),qay,qGr (λh=>e h.symm)]
theorem qdx{cfg:Cfg}{cf:Orac}{frz:Bool}{at_:Nat}{o:Oper}{x:Operand->AV}{r:AV}(he:vZ cfg cf frz (some at_) o x H=some (r,H'))(hw:(yI cfg frz at_ o x H).wall=false)(hl:H2.length=H.length)(hr:∀id∈(yI cfg frz at_ o x H).rd,H2[id]? =H[id]?)(hwr:∀id∈(yI cfg frz at_ o x H).wr,H2[id]? =H[id]?):∃H2',vZ cfg cf frz (some at_) o x H2=some (r,H2')∧Upd (yI cfg frz at_ o x H).wr H2 H' H2':=by
 obtain⟨dst,op,ty,pos,after,guard⟩:=o;cases frz with
 |true=>
  unfold yI at hw hwr⊢;simp only[if_true]at hw hwr⊢;unfold vZ at he⊢;simp only[if_true]at he⊢;cases op with
  |build t parts=>
   simp only at hw hwr he⊢;have hx:(λa=>(x a).frz ((Op.build t parts).operands.toList.flatMap λa=>(x a).msIds) H2)=λa=>(x a).frz ((Op.build t parts).operands.toList.flatMap λa=>(x a).msIds) H:=funext λa=>qnq hwr
   rw[hx];have hup:Upd ((Op.build t parts).operands.toList.flatMap λa=>(x a).msIds) H2 (qV ((Op.build t parts).operands.toList.flatMap λa=>(x a).msIds) H) (qV ((Op.build t parts).operands.toList.flatMap λa=>(x a).msIds) H2):=
    ⟨qb5 _ _,qeq _ hwr⟩
   generalize (Op.build t parts).operands.toList.flatMap (λa=>(x a).msIds)=ids at *;simp only[evOp]at *;split at he
   ·split at he
    ·rename_i h1;rw[qGq h1];split at he
     ·split at he
      ·obtain⟨cs,hcs,e⟩:=qFM.1 he;cases e;rw[hcs];exact⟨_,rfl,hup⟩
      ·cases he
     ·split at he
      ·obtain⟨cs,hcs,e⟩:=qFM.1 he;cases e;rw[hcs];exact⟨_,rfl,hup⟩
      ·cases he
     ·cases he
    ·cases he
   ·cases he
  |call c=>
   obtain⟨callee,args,argTypes⟩:=c;cases callee with
   |value f=>
    simp only at hw hwr he⊢;split at hw
    case h_2=>simp at hw
    rename_i h al ht;simp only[ht]at hwr⊢;cases hm:cfg.mode h with
    |pfrz=>
     simp only[hm]at hwr⊢;have hx:(λa=>(x a).frz ((Op.call ⟨.value f,args,argTypes⟩).operands.toList.flatMap λa=>(x a).msIds) H2)=λa=>(x a).frz ((Op.call ⟨.value f,args,argTypes⟩).operands.toList.flatMap λa=>(x a).msIds) H:=funext λa=>qnq hwr
     have hup:Upd ((Op.call ⟨.value f,args,argTypes⟩).operands.toList.flatMap λa=>(x a).msIds) H2 (qV ((Op.call ⟨.value f,args,argTypes⟩).operands.toList.flatMap λa=>(x a).msIds) H) (qV ((Op.call ⟨.value f,args,argTypes⟩).operands.toList.flatMap λa=>(x a).msIds) H2):=
      ⟨qb5 _ _,qeq _ hwr⟩
     have hxa:∀a,(x a).frz ((Op.call ⟨.value f,args,argTypes⟩).operands.toList.flatMap λa=>(x a).msIds) H2=(x a).frz ((Op.call ⟨.value f,args,argTypes⟩).operands.toList.flatMap λa=>(x a).msIds) H:=λa=>qnq hwr
     rw[hxa,hx];clear hxa hx hwr hr hw;generalize (Op.call ⟨.value f,args,argTypes⟩).operands.toList.flatMap (λa=>(x a).msIds)=ids at *;have hxf:(x f).frz ids H=x f:=by
      unfold zy at ht;split at ht
      ·rename_i hx;rw[hx];rfl
      ·simp at ht
      ·cases ht
     rw[hxf]at he⊢;obtain⟨t2,ht2,he⟩:=qFL.1 he;rw[ht2];have htf:t2.1= .f h:=by
      unfold zy at ht ht2;split at ht
      ·rename_i hx;rw[hx]at ht2;simp only[Option.some.injEq,Prod.mk.injEq]at ht ht2;rw[←ht2];exact ht.1
      ·simp at ht
      ·cases ht
     obtain⟨t2a,t2b⟩:=t2;simp only at htf;subst htf;simp only[qGa,yA,qaE,vA,hm]at he⊢;split at he
     case isFalse=>cases he
     rename_i h1;rw[qGq h1];obtain⟨q,hq,he⟩:=qFL.1 he;rw[hq];simp only[qGa]at he⊢;split at he
     case isFalse=>cases he
     rename_i h2;cases he;exact⟨_,by rw[qGq h2],hup⟩
    |_=>simp[hm]at hw
   |_=>simp at hw
  |_=>simp at hw
 |false=>
  unfold vZ at he⊢;simp only[qF5,if_false]at he⊢;unfold yI at hw hr hwr⊢;simp only[qF5,if_false]at hw hr hwr⊢;cases op with
  |move a=>simp only[evOp]at *;cases he;exact⟨H2,rfl,Upd.same hwr⟩
  |assign a=>simp only[evOp]at *;cases he;exact⟨H2,rfl,Upd.same hwr⟩
  |pick c a b=>
   simp only[evOp]at *;split at he
   ·cases he;exact⟨H2,rfl,Upd.same hwr⟩
   ·cases he
  |alloc t=>
   simp only[evOp]at *;split at he
   ·split at he
    ·rename_i h1;rw[qGq h1];split at he
     ·rename_i k H1 hnew;cases he;obtain⟨H2',e1,e2⟩:=qau hnew hwr hl (by simp);simp only[e1];exact⟨H2',rfl,e2⟩
     ·cases he
    ·cases he
   ·cases he
  |box t a=>
   simp only[evOp]at *;split at he
   ·split at he
    ·rename_i k H1 hnew;cases he;obtain⟨H2',e1,e2⟩:=qau hnew hwr hl (by simp);simp only[e1];exact⟨H2',rfl,e2⟩
    ·cases he
   ·cases he
  |build t parts=>
   simp only[evOp]at *;split at he
   ·split at he
    ·rename_i h1;rw[qGq h1];split at he
     ·split at he
      ·obtain⟨cs,hcs,e⟩:=qFM.1 he;cases e;rw[hcs];exact⟨H2,rfl,Upd.same hwr⟩
      ·cases he
     ·split at he
      ·obtain⟨cs,hcs,e⟩:=qFM.1 he;cases e;rw[hcs];exact⟨H2,rfl,Upd.same hwr⟩
      ·cases he
     ·cases he
    ·cases he
   ·cases he
  |buildSlice t len parts=>
   simp only[evOp]at *;split at he
   ·split at he
    ·split at he
     ·rename_i h1;rw[qGq h1];split at he
      ·split at he
       ·rename_i k H1 hnew;cases he;obtain⟨H2',e1,e2⟩:=qau hnew hwr hl (by simp);simp only[e1];exact⟨H2',rfl,e2⟩
       ·cases he
      ·cases he
     ·cases he
    ·cases he
   ·cases he
  |load t a=>
   simp only[evOp]at *;split at he
   ·exact xY he (qxq hr) hwr
   ·cases he
  |store t a v=>
   simp only[evOp]at *;split at he
   ·obtain⟨H1,h1,e⟩:=qFM.1 he;cases e;obtain⟨H2',e1,e2⟩:=qq6 h1 hwr hl;rw[e1];exact⟨H2',rfl,e2⟩
   ·cases he
  |nilCheck a=>
   simp only[evOp]at *;split at he<;>first|(cases he;exact⟨H2,rfl,Upd.same hwr⟩)|cases he
  |binOp op t a b yt=>simp only[evOp]at *;exact xY he rfl hwr
  |unOp op t a=>simp only[evOp]at *;exact xY he rfl hwr
  |convert s d a=>simp only[evOp]at *;exact qnC he hr hwr hl (by simp)
  |makeFunc f first caps=>simp only[evOp]at *;cases he;exact⟨H2,rfl,Upd.same hwr⟩
  |makeSlice t l c=>simp only[evOp]at *;exact qq9 he hwr hl (by simp)
  |slice t a lo hi mx=>simp only[evOp]at *;exact xY he (qvs hr) hwr
  |fieldAddr t a f=>simp only[evOp]at *;exact xY he rfl hwr
  |field t a f=>simp only[evOp]at *;exact xY he rfl hwr
  |indexAddr t a i=>simp only[evOp]at *;exact xY he (qnA λid hi=>hr id (qqv hi)) hwr
  |index t a i=>simp only[evOp]at *;exact xY he rfl hwr
  |extract t i=>
   simp only[evOp]at *;split at he
   ·exact xY he rfl hwr
   ·cases he
  |call c=>
   obtain⟨callee,args,argTypes⟩:=c;cases callee with
   |value f=>
    simp only at *;obtain⟨t,ht,he⟩:=qFL.1 he;simp only[ht]at hw hr hwr⊢;exact qsD he hw hl hr hwr
   |invoke rv nm=>simp at hw
   |builtin b=>
    simp only[evOp]at he⊢;simp only at hw hr hwr;generalize args.toList=al at *;generalize argTypes.toList=tl at *;split at he
    ·rename_i hb;cases hb;exact xY he (qzj λid hi=>hr id (qqv hi)) hwr
    ·rename_i hb;cases hb;exact xY he rfl hwr
    ·rename_i hb;cases hb;exact qoQ he hr hwr hl (by simp) (λid hi=>by simp[hi])
    ·rename_i hb;cases hb;simp at hw
    ·rename_i hb;cases hb;simp at hw
    ·rename_i hb;cases hb;exact xY he rfl hwr
    ·rename_i hb;cases hb;exact xY he rfl hwr
    ·cases he
  |makeMap t rv=>simp at hw
  |lookup t a k ok=>
   simp only[evOp]at *;exact xY he (qsJ hr) hwr
  |mapUpdate t m k v=>simp at hw
  |insert t m k v=>simp at hw
  |_=>simp only[evOp]at he;cases he
variable {C C' C1 C2 : qk} {μ μ' μ1 : MMap} {H H' H1 H2 : AH} {w w' w1 : World} {P : Program}
theorem qfP{at_ k:Nat}{r r':AV}(h:yY (some at_) k r H=some (r',H')):H'.length=k:=by
 unfold yY at h;split at h
 ·simp only at h;split at h
  ·rename_i hb;cases h;exact qFO hb
  ·cases h
 ·cases h
theorem qkk{cfg:Cfg}{t:TypeId}{m k v:AV}(h:qba cfg t m k v H=some H'):H'.length=H.length:=by
 unfold qba at h;split at h
 ·split at h
  ·split at h
   ·split at h
    ·cases h;simp
    ·cases h;simp
    ·cases h
   ·cases h
  ·cases h
 ·cases h
theorem qoM{cfg:Cfg}{cf:Orac}{at_ n:Nat}{t:Tgt}{args:List AV}{r:AV}(hn:qaE cfg t args=some n)(he:yA cfg cf (some at_) t args H=some (r,H')):H'.length=H.length:=by
 unfold qaE at hn;split at hn<;>cases hn
theorem qu1{cfg:Cfg}{cf:Orac}{frz:Bool}{at_:Nat}{o:Oper}{x:Operand->AV}{r:AV}(he:vZ cfg cf frz (some at_) o x H=some (r,H')):H'.length=H.length:=by
 have core:∀{x:Operand->AV} {H:AH},vZ cfg cf false (some at_) o x H=some (r,H')->H'.length=H.length:=by
  intro x H he;cases hw:(yI cfg false at_ o x H).wall with
  |false=>
   obtain⟨H2',e1,e2⟩:=qdx (H2:=H) he hw rfl (λ_ _=>rfl) (λ_ _=>rfl);rw[he]at e1;cases e1;exact e2.1
  |true=>
   obtain⟨dst,op,ty,pos,after,guard⟩:=o;unfold vZ at he;simp only[qF5,if_false]at he;unfold yI at hw;simp only[qF5,if_false]at hw;cases op with
   |call c=>
    obtain⟨callee,args,argTypes⟩:=c;cases callee with
    |value f=>
     simp only at *;obtain⟨t,ht,he⟩:=qFL.1 he;simp only[ht]at hw;cases hn:qaE cfg t.1 t.2 with
     |some n=>exact qoM hn he
     |none=>?_
     replace he:vA cfg cf (some at_) t.1 t.2 H=some (r,H'):=by unfold yA at he;rw[hn]at he;exact he
     replace hw:(qaz cfg at_ t.1 t.2 H).wall=true:=by unfold qdt at hw;rw[hn]at hw;exact hw
     cases ht1:t.1 with
     |y id=>
      rw[ht1]at he;simp only[vA]at he;obtain⟨q,_,he⟩:=qFL.1 he;exact qfP he
     |f g=>
      rw[ht1]at he hw;simp only[vA,qaz]at he hw;cases hm:cfg.mode g with
      |scal=>simp[hm]at hw
      |pfrz=>simp[hm,FP.none]at hw
      |nfrz=>simp[hm,FP.none]at hw
      |pown=>simp[hm]at hw
      |inpl=>simp[hm]at hw
      |inpf=>simp[hm]at hw
      |slf=>simp[hm]at hw
      |imp=>
       simp only[hm]at he;obtain⟨q,_,he⟩:=qFL.1 he;exact qfP he
      |ifrz=>
       simp only[hm]at he;obtain⟨q,_,he⟩:=qFL.1 he;exact qfP he
      |rgn=>simp[hm]at hw
      |over=>
       simp only[hm]at he;split at he
       case h_2=>cases he
       split at he
       case h_2=>cases he
       split at he
       case isFalse=>cases he
       split at he
       ·obtain⟨u,_,he⟩:=qFM.1 he;cases he;simp
       ·obtain⟨u,_,he⟩:=qFM.1 he;cases he;rfl
       ·cases he
    |invoke rv nm=>simp only[evOp]at he;cases he
    |builtin b=>
     simp only[evOp]at he;simp only at hw;generalize args.toList=al at *;generalize argTypes.toList=tl at *;split at he
     ·rename_i hb;cases hb;simp at hw
     ·rename_i hb;cases hb;simp[FP.none]at hw
     ·rename_i hb;cases hb;simp at hw
     ·unfold qi8 at he;split at he
      ·split at he
       ·split at he
        ·split at he
         ·cases he;simp
         ·cases he
        ·cases he
       ·cases he
      ·cases he
     ·obtain⟨H1,h1,e⟩:=qFM.1 he;cases e;unfold qe6 at h1;split at h1
      ·cases h1;rfl
      ·split at h1
       ·cases h1;simp
       ·cases h1
      ·cases h1;rfl
      ·split at h1
       ·split at h1
        ·cases h1;simp
        ·cases h1
       ·cases h1
      ·cases h1
     ·rename_i hb;cases hb;simp[FP.none]at hw
     ·rename_i hb;cases hb;simp[FP.none]at hw
     ·cases he
   |makeMap t rv=>
    simp only[evOp]at he;split at he
    ·split at he
     ·rename_i k H1 hnew;cases he;unfold aNew at hnew;split at hnew
      ·rename_i e;cases e
      ·rename_i k' e;cases e;split at hnew
       ·cases hnew;simp
       ·cases hnew
     ·cases he
    ·cases he
   |lookup t a k ok=>
    simp only[evOp]at he;obtain⟨y,_,e⟩:=qFM.1 he;cases e;rfl
   |mapUpdate t m k v=>
    simp only[evOp]at he;obtain⟨H1,h1,e⟩:=qFM.1 he;cases e;exact qkk h1
   |insert t m k v=>
    simp only[evOp]at he;obtain⟨H1,h1,e⟩:=qFM.1 he;cases e;exact qkk h1
   |_=>simp[FP.none]at hw
 cases frz with
 |false=>exact core he
 |true=>
  have he':vZ cfg cf false (some at_) o (λa=>(x a).frz (o.op.operands.toList.flatMap λa=>(x a).msIds) H) (qV (o.op.operands.toList.flatMap λa=>(x a).msIds) H)=some (r,H'):=by
   unfold vZ at he⊢
   simpa using he
  rw[core he',qb5]
def zE(p:Nat->Bool):Nat->Option Nat
 |0=>none
 |n+1=>if p n then some n else zE p n
theorem qaF{p q:Nat->Bool}:∀{n:Nat},(∀j,j<n->p j=q j)->zE p n=zE q n
 |0,_=>rfl
 |n+1,h=>by rw[zE,zE,h n (Nat.lt_succ_self n),qaF λj hj=>h j (Nat.lt_succ_of_lt hj)]
theorem qfA{p:Nat->Bool}:∀{n:Nat},(∀j,j<n->p j=false)->zE p n=none
 |0,_=>rfl
 |n+1,h=>by rw[zE,h n (Nat.lt_succ_self n),qGr (by simp),qfA λj hj=>h j (Nat.lt_succ_of_lt hj)]
theorem qkC{p:Nat->Bool}{i:Nat}(hi:p i=true):∀{n:Nat},i<n->(∀j,j<n->i<j->p j=false)->zE p n=some i
 |0,h,_=>by omega
 |n+1,h,hj=>by
  rw[zE]
  by_cases e:i=n
  ·subst e;rw[qGq hi]
  ·rw[hj n (Nat.lt_succ_self n) (by omega),qGr (by simp),qkC hi (by omega) λj h1 h2=>hj j (Nat.lt_succ_of_lt h1) h2]
def binds(o:Oper)(m:Nat):Prop:=∃e∈o.after.toList,Region.binds .any e=true∧e.on=m
theorem qqE(acc:List Nat):∀(l:List Edge) (s i:Nat),(l.foldl (λs e=>if Region.binds .any e then s ||| 2 ^ e.on ||| acc.getD e.on 0 else s) s).testBit i=true ->
  s.testBit i=true∨∃e∈l,Region.binds .any e=true∧(e.on=i∨(acc.getD e.on 0).testBit i=true)
 |[],s,i,h=>.inl h
 |e::l,s,i,h=>by
  rw[List.foldl_cons]at h;rcases qqE acc l _ i h with h|⟨e',he',hb⟩
  ·split at h
   ·rename_i hb;rw[Nat.testBit_or,Nat.testBit_or,Bool.or_eq_true,Bool.or_eq_true]at h;rcases h with(h|h)|h
    ·exact .inl h
    ·rw[Nat.testBit_two_pow]at h;exact .inr ⟨e,List.mem_cons_self ..,hb,.inl (by simpa using h)⟩
    ·exact .inr ⟨e,List.mem_cons_self ..,hb,.inr h⟩
   ·exact .inl h
  ·exact .inr ⟨e',List.mem_cons_of_mem _ he',hb⟩
theorem qkg:∀(l:List Oper) (acc:List Nat),∃t,ancs acc l=acc++t∧t.length=l.length
 |[],acc=>⟨[],by simp[ancs],rfl⟩
 |o::l,acc=>by
  obtain⟨t,h1,h2⟩:=qkg l (acc++[qfV acc o]);exact⟨qfV acc o::t,by rw[ancs,h1];simp,by simp[h2]⟩
theorem qq4:∀(l:List Oper) (acc:List Nat) (j:Nat) (o:Oper),l[j]? =some o->(ancs acc l).getD (acc.length+j) 0=qfV ((ancs acc l).take (acc.length+j)) o
 |[],acc,j,o,h=>by simp at h
 |o'::l,acc,j,o,h=>by
  cases j with
  |zero=>
   simp at h;subst h;obtain⟨t,h1,h2⟩:=qkg l (acc++[qfV acc o']);rw[ancs,h1];simp
  |succ j=>
   have:=qq4 l (acc++[qfV acc o']) j o (by simpa using h);rw[ancs];simp only[qFU,qGf,List.length_nil]at this;rw[show acc.length+(j+1)=acc.length+(0+1)+j by omega];exact this
theorem qzi{ops:Array Oper}(hb:zn 0 ops.toList=true){j i:Nat}{o:Oper}(ho:ops[j]? =some o)(h:((ancs [] ops.toList).getD j 0).testBit i=true):∃m,binds o m∧m<j∧(m=i∨((ancs [] ops.toList).getD m 0).testBit i=true):=by
 have hback:∀(l:List Oper) (k j:Nat) (o:Oper),zn k l=true->l[j]? =some o->∀e∈o.after.toList,Region.binds .any e=true->e.on<k+j:=by
  intro l
  induction l with
  |nil=>intro k j o _ h;simp at h
  |cons o' l ih=>
   intro k j o hb hj e he hbe;rw[zn,qFJ]at hb;cases j with
   |zero=>
    simp at hj;subst hj;have:=List.all_eq_true.1 hb.1 e he;rw[hbe]at this
    simpa [Nat.blt_eq]using this
   |succ j=>
    have:=ih (k+1) j o hb.2 (by simpa using hj) e he hbe;omega
 have ho':ops.toList[j]? =some o:=by rw[Array.getElem?_toList];exact ho
 have hg:=qq4 ops.toList [] j o ho';simp only[List.length_nil,qGi]at hg;rw[hg]at h;unfold qfV at h;rcases qqE _ _ _ _ h with h|⟨e,he,hbe,h⟩
 ·simp at h
 ·have hlt:e.on<j:=by have:=hback ops.toList 0 j o hb ho' e he hbe;omega
  refine⟨e.on,⟨e,he,hbe,rfl⟩,hlt,?_⟩;rcases h with h|h
  ·exact .inl h
  ·right
   rw[List.getD_eq_getElem?_getD,List.getElem?_take_of_lt hlt,←List.getD_eq_getElem?_getD]at h;exact h
variable {C C' C1 C2 : qk} {μ μ' μ1 : MMap} {H H' H1 H2 : AH} {w w' w1 : World} {P : Program}
def FP.T(a:FP)(id:Nat):Bool:=a.wall||yd id a.rd||yd id a.wr
def FP.W(a:FP)(id:Nat):Bool:=a.wall||yd id a.wr
theorem FP.touches_T{a:FP}{id:Nat}(h:a.T id=true):a.touches=true:=by
 unfold FP.T at h;unfold FP.touches;rw[Bool.or_eq_true,Bool.or_eq_true]at h;rcases h with(h|h)|h
 ·simp[h]
 ·cases hr:a.rd with
  |nil=>rw[hr]at h;simp[yd]at h
  |cons x l=>simp
 ·cases hr:a.wr with
  |nil=>rw[hr]at h;simp[yd]at h
  |cons x l=>simp
theorem FP.T_of_W{a:FP}{id:Nat}(h:a.W id=true):a.T id=true:=by
 unfold FP.W at h;unfold FP.T;rw[Bool.or_eq_true]at h;rcases h with h|h<;>simp[h]
theorem qfO{a b:FP}(h:a.indep b=true)(id:Nat):¬(a.T id=true∧b.W id=true)∧¬(a.W id=true∧b.T id=true):=by
 simp only[FP.indep,qFJ,quh,Bool.not_eq_true',Bool.and_eq_false_iff]at h;obtain⟨⟨⟨⟨h1,h2⟩,h3⟩,h4⟩,h5⟩:=h;constructor
 ·rintro⟨ha,hb⟩;have ta:=FP.touches_T ha;have tb:=FP.touches_T (FP.T_of_W hb);have wa:a.wall=false:=h1.resolve_right (by rw[tb];simp);have wb:b.wall=false:=h2.resolve_right (by rw[ta];simp);unfold FP.T at ha;unfold FP.W at hb;rw[wa,Bool.false_or,Bool.or_eq_true,vL,vL]at ha;rw[wb,Bool.false_or,vL]at hb;rcases ha with ha|ha
  ·exact h5 id hb ha
  ·exact h4 id hb ha
 ·rintro⟨ha,hb⟩;have ta:=FP.touches_T (FP.T_of_W ha);have tb:=FP.touches_T hb;have wa:a.wall=false:=h1.resolve_right (by rw[tb];simp);have wb:b.wall=false:=h2.resolve_right (by rw[ta];simp);unfold FP.W at ha;unfold FP.T at hb;rw[wa,Bool.false_or,vL]at ha;rw[wb,Bool.false_or,Bool.or_eq_true,vL,vL]at hb;rcases hb with hb|hb
  ·exact h3 id hb ha
  ·exact h4 id hb ha
theorem qjK{ops:Array Oper}{A:List Nat}{i:Nat}{a:Oper}:∀(l:List Oper) (j0:Nat),qiL ops A i a j0 l=true->∀j b,l[j]? =some b->qbS a b=true∧((A.getD (j0+j) 0).testBit i=true∨qbT ops a b=true)
 |[],_,_,j,b,h=>by simp at h
 |x::l,j0,hs,j,b,h=>by
  rw[qiL,qFJ,qFJ,Bool.or_eq_true]at hs;cases j with
  |zero=>simp at h;subst h;exact hs.1
  |succ j=>
   have:=qjK l (j0+1) hs.2 j b (by simpa using h);rw[show j0+(j+1)=j0+1+j by omega];exact this
theorem qjL{ops:Array Oper}{A:List Nat}:∀(l:List Oper) (i0:Nat),qiM ops A i0 l=true->∀i j a b,l[i]? =some a->l[j]? =some b->i<j->qbS a b=true∧((A.getD (i0+j) 0).testBit (i0+i)=true∨qbT ops a b=true)
 |[],_,_,i,j,a,b,h,_,_=>by simp at h
 |x::l,i0,hs,i,j,a,b,hi,hj,hlt=>by
  rw[qiM,qFJ]at hs;cases j with
  |zero=>omega
  |succ j=>
   cases i with
   |zero=>
    simp at hi;subst hi;have:=qjK l (i0+1) hs.1 j b (by simpa using hj);rw[show i0+(j+1)=i0+1+j by omega];exact this
   |succ i=>
    have:=qjL l (i0+1) hs.2 i j a b (by simpa using hi) (by simpa using hj) (by omega);rw[show i0+(j+1)=i0+1+j by omega,show i0+(i+1)=i0+1+i by omega];exact this
theorem qms{A:List Nat}{i:Nat}{a:FP}:∀(l:List FP) (j0:Nat),qmt A i a j0 l=true->∀j b,l[j]? =some b->(A.getD (j0+j) 0).testBit i=true∨a.indep b=true
 |[],_,_,j,b,h=>by simp at h
 |x::l,j0,hs,j,b,h=>by
  rw[qmt,qFJ,Bool.or_eq_true]at hs;cases j with
  |zero=>simp at h;subst h;exact hs.1
  |succ j=>
   have:=qms l (j0+1) hs.2 j b (by simpa using h);rw[show j0+(j+1)=j0+1+j by omega];exact this
theorem qfR{A:List Nat}:∀(l:List FP) (i0:Nat),qhY A i0 l=true->∀i j a b,l[i]? =some a->l[j]? =some b->i<j->(A.getD (i0+j) 0).testBit (i0+i)=true∨a.indep b=true
 |[],_,_,i,j,a,b,h,_,_=>by simp at h
 |x::l,i0,hs,i,j,a,b,hi,hj,hlt=>by
  rw[qhY,qFJ]at hs;cases j with
  |zero=>omega
  |succ j=>
   cases i with
   |zero=>
    simp at hi;subst hi;have:=qms l (i0+1) hs.1 j b (by simpa using hj);rw[show i0+(j+1)=i0+1+j by omega];exact this
   |succ i=>
    have:=qfR l (i0+1) hs.2 i j a b (by simpa using hi) (by simpa using hj) (by omega);rw[show i0+(j+1)=i0+1+j by omega,show i0+(i+1)=i0+1+i by omega];exact this
theorem qlL{t:Tmp}:∀{l:List Operand},Operand.tmp t∈l->t∈qeL l
 |[],h=>by cases h
 |x::l,h=>by
  rcases qF6.1 h with h|h
  ·subst h;simp[qeL]
  ·have:=qlL h;cases x<;>simp[qeL,this]
theorem qsW{fr fr2:List AV}{ops:Array Oper}{o:Oper}(h:∀t∈z3 ops o,fr2[t]? =fr[t]?):∀a∈o.op.operands,opd fr2 a=opd fr a:=by
 intro a ha;cases a with
 |tmp t=>
  have:t∈z3 ops o:=by unfold z3;exact qF8.2 (.inl (qlL (Array.mem_toList_iff.2 ha)))
  show fr2.getD t .junk=fr.getD t .junk;rw[List.getD_eq_getElem?_getD,List.getD_eq_getElem?_getD,h t this]
 |_=>rfl
theorem qrt{fr fr2:List AV}{ops:Array Oper}{o:Oper}(h:∀t∈z3 ops o,fr2[t]? =fr[t]?):y7 ops fr2 o=y7 ops fr o:=by
 unfold y7;split
 ·rfl
 ·rename_i j want hg;split
  ·rename_i d hd;have:d∈z3 ops o:=by unfold z3;rw[hg];simp[hd]
   rw[h d this]
  ·rfl
structure DStep (cfg:Cfg) (cf:Orac) (ops:Array Oper) (frz:Bool) (o:Oper) (fr fr':List AV) (H H':AH) (v:AV) (b:Bool) (at_:Nat) (fp:FP) (re:AH->Bool):Prop where
 wanted:y7 ops fr o=some b
 next:fr'=put fr o.dst v
 yes:b=true->vZ cfg cf frz (some at_) o (opd fr) H=some (v,H')∧fp=yI cfg frz at_ o (opd fr) H∧re=qls cfg frz at_ o (opd fr) v
 no:b=false->v= .tup []∧H'=H∧fp=FP.none∧re=λ_=>false
theorem qmp{cfg:Cfg}{cf:Orac}{f rid:Nat}{ops:Array Oper}:∀(rest:List Oper) (k at_:Nat) {fr fr':List AV} {H H':AH} {fps:List DR},zO cfg cf f rid ops k at_ rest fr H=some (fps,fr',H') ->
  ∃(F:Nat->List AV) (G:Nat->AH) (V:Nat->AV) (B:Nat->Bool) (A:Nat->Nat) (Φ:Nat->FP) (R:Nat->AH->Bool),F 0=fr∧G 0=H∧F rest.length=fr'∧G rest.length=H'∧(∀i,i<rest.length->fps[i]? =some ⟨Φ i,G (i+1),R i⟩) ∧
   ∀i o,rest[i]? =some o->DStep cfg cf ops (cfg.frz f rid (k+i)) o (F i) (F (i+1)) (G i) (G (i+1)) (V i) (B i) (A i) (Φ i) (R i)
 |[],k,at_,fr,fr',H,H',fps,he=>by
  simp only[zO]at he;cases he;exact⟨λ_=>fr,λ_=>H,λ_=>.junk,λ_=>true,λ_=>0,λ_=>FP.none,λ_ _=>false,rfl,rfl,rfl,rfl,λi h=>by simp at h,λi o h=>by simp at h⟩
 |o::rest,k,at_,fr,fr',H,H',fps,he=>by
  simp only[zO]at he;obtain⟨b,hb,he⟩:=qFL.1 he;have glue:∀{v:AV} {H1:AH} {fp:FP} {re:AH->Bool} {fps1:List DR},DStep cfg cf ops (cfg.frz f rid k) o fr (put fr o.dst v) H H1 v b at_ fp re ->
    zO cfg cf f rid ops (k+1) (at_+qeW cfg o) rest (put fr o.dst v) H1=some (fps1,fr',H')->fps=⟨fp,H1,re⟩::fps1 ->
    ∃(F:Nat->List AV) (G:Nat->AH) (V:Nat->AV) (B:Nat->Bool) (A:Nat->Nat) (Φ:Nat->FP) (R:Nat->AH->Bool),F 0=fr∧G 0=H∧F (o::rest).length=fr'∧G (o::rest).length=H'∧(∀i,i<(o::rest).length->fps[i]? =some ⟨Φ i,G (i+1),R i⟩) ∧
     ∀i o',(o::rest)[i]? =some o'->DStep cfg cf ops (cfg.frz f rid (k+i)) o' (F i) (F (i+1)) (G i) (G (i+1)) (V i) (B i) (A i) (Φ i) (R i):=by
   intro v H1 fp re fps1 hs hd hfp;obtain⟨F,G,V,B,A,Φ,R,e1,e2,e3,e4,e5,e6⟩:=qmp rest (k+1) _ hd;refine⟨λi=>match i with|0=>fr|i+1=>F i,λi=>match i with|0=>H|i+1=>G i,λi=>match i with|0=>v|i+1=>V i,λi=>match i with|0=>b|i+1=>B i,
    λi=>match i with|0=>at_|i+1=>A i,λi=>match i with|0=>fp|i+1=>Φ i,λi=>match i with|0=>re|i+1=>R i,rfl,rfl,e3,e4,λi hi=>?_,λi o' ho=>?_⟩
   ·rw[hfp];cases i with
    |zero=>
     show some (DR.mk fp H1 re)=some ⟨fp,G 0,re⟩;rw[e2]
    |succ i=>exact e5 i (by simpa using hi)
   ·cases i with
    |zero=>
     simp at ho;subst ho;show DStep cfg cf ops (cfg.frz f rid (k+0)) o fr (F 0) H (G 0) v b at_ fp re;rw[e1,e2];exact hs
    |succ i=>
     have:=e6 i o' (by simpa using ho);rw[show k+(i+1)=k+1+i by omega];exact this
  split at he
  ·rename_i hbt;obtain⟨q,hq,he⟩:=qFL.1 he;obtain⟨p,hp,e⟩:=qFM.1 he;obtain⟨fps1,fr1,H1⟩:=p;cases e;exact glue ⟨hb,rfl,λ_=>⟨hq,rfl,rfl⟩,λh=>by rw[h]at hbt;simp at hbt⟩ hp rfl
  ·rename_i hbt;obtain⟨p,hp,e⟩:=qFM.1 he;obtain⟨fps1,fr1,H1⟩:=p;cases e;exact glue ⟨hb,rfl,λh=>absurd h hbt,λ_=>⟨rfl,rfl,rfl,rfl⟩⟩ hp rfl
theorem DStep.again{cfg:Cfg}{cf:Orac}{ops:Array Oper}{frz:Bool}{o:Oper}{fr fr':List AV}{v:AV}{at_:Nat}{fp:FP}{re:AH->Bool}(h:DStep cfg cf ops frz o fr fr' H H' v true at_ fp re){fr2:List AV}(hu:∀t∈z3 ops o,fr2[t]? =fr[t]?)(hl:H2.length=H.length)(ht:∀id,fp.T id=true->H2[id]? =H[id]?):
  ∃H2',vZ cfg cf frz (some at_) o (opd fr2) H2=some (v,H2')∧H2'.length=H2.length∧∀id,H2'[id]? =if fp.W id=true then H'[id]? else H2[id]? :=by
 obtain⟨he,hfp,-⟩:=h.yes rfl;rw[qhU (qsW hu)];cases hw:fp.wall with
 |true=>
  have:H2=H:=List.ext_getElem? λid=>ht id (by unfold FP.T;rw[hw];simp)
  subst this;exact⟨H',he,qu1 he,λid=>by unfold FP.W;rw[hw];simp⟩
 |false=>
  rw[hfp]at hw;obtain⟨H2',e1,e2,e3⟩:=qdx (H2:=H2) he hw hl (λid hi=>ht id (by unfold FP.T;rw[hfp,Bool.or_eq_true,Bool.or_eq_true,vL,vL];exact .inl (.inr hi)))
   (λid hi=>ht id (by unfold FP.T;rw[hfp,Bool.or_eq_true,Bool.or_eq_true,vL,vL];exact .inr hi))
  refine⟨H2',e1,e2,λid=>?_⟩;rw[e3 id];unfold FP.W;rw[hfp,hw,Bool.false_or]
  by_cases hi:id∈(yI cfg frz at_ o (opd fr) H).wr
  ·rw[qGq hi,qGq (vL.2 hi)]
  ·rw[qGr hi,qGr (λh=>hi (vL.1 h))]
theorem qx6{a b:AV}(h:a.same1 b=true):a=b:=by
 cases a<;>cases b<;>simp[AV.same1]at h<;>first|rfl|(obtain⟨h1,h2⟩:=h;subst h1;subst h2;rfl)|(subst h;rfl)|(obtain⟨⟨h1,h2⟩,h3⟩:=h;subst h1;subst h2;subst h3;rfl)|(obtain⟨h1,h2,h3⟩:=h;subst h1;subst h2;subst h3;rfl)
theorem DStep.reads{cfg:Cfg}{cf:Orac}{ops:Array Oper}{frz:Bool}{o:Oper}{fr fr':List AV}{v:AV}{at_:Nat}{fp:FP}{re:AH->Bool}{b:Bool}(h:DStep cfg cf ops frz o fr fr' H H' v b at_ fp re){G:AH}(hr:re G=true):
  b=true∧H'=H∧∃id,fp=⟨[id],[],false⟩∧∀{G:AH},re G=true->∀{fr2:List AV},(∀t∈z3 ops o,fr2[t]? =fr[t]?)->∀{H2:AH},H2[id]? =G[id]? ->H2.length=G.length->vZ cfg cf frz (some at_) o (opd fr2) H2=some (v,H2):=by
 cases b with
 |false=>rw[(h.no rfl).2.2.2]at hr;cases hr
 |true=>
  obtain⟨he,hfp,hre⟩:=h.yes rfl;refine⟨rfl,?_⟩;rw[hre]at hr;obtain⟨dst,op,ty,pos,after,guard⟩:=o;unfold qls at hr;split at hr
  case isTrue=>cases hr
  rename_i hfz;have hfz:frz=false:=by simpa using hfz
  subst hfz;cases op with
  |load t a=>
   simp only at hr;split at hr
   case h_2=>cases hr
   rename_i id r off hx;have hfp':fp=⟨[id],[],false⟩:=by rw[hfp];simp[yI,hx,AV.hid]
   refine⟨?_,id,hfp',fun{G} hG {fr2} hu {H2} hid hlen=>?_⟩
   ·unfold vZ at he;simp only[qF5,if_false,evOp]at he;split at he
    ·obtain⟨_,_,e⟩:=qFM.1 he;cases e;rfl
    ·cases he
   ·rw[qhU (qsW hu)];rw[hre]at hG;unfold qls at hG;simp only[qF5,if_false,hx]at hG;split at hG
    case h_2=>cases hG
    rename_i v' G' hv;have:=qx6 hG;subst this;have hev:vZ cfg cf false (some at_) ⟨dst,.load t a,ty,pos,after,guard⟩ (opd fr) G=some (v',G'):=by
     unfold vZ;simp only[qF5,if_false];exact hv
    obtain⟨H2',e1,e2,e3⟩:=qdx (H2:=H2) hev (by simp[yI]) hlen (λi hi=>by
     simp[yI,hx,AV.hid]at hi;subst hi;exact hid) (λi hi=>by simp[yI]at hi)
    have:H2'=H2:=List.ext_getElem? λi=>by rw[e3 i];simp[yI]
    rw[this]at e1;exact e1
  |_=>cases hr
variable {C C' C1 C2 : qk} {μ μ' μ1 : MMap} {H H' H1 H2 : AH} {w w' w1 : World} {P : Program}
def zd(ops:Array Oper)(t j:Nat):Bool:=
 match ops[j]? with
 |some o=>(match o.dst with|some d=>qFY d t|none=>false)
 |none=>false
theorem qhP{ops:Array Oper}{t j:Nat}{o:Oper}(h:ops[j]? =some o):zd ops t j=true↔o.dst=some t:=by
 unfold zd;rw[h];simp only;cases hd:o.dst with
 |none=>simp
 |some d=>
  simp only[Option.some.injEq];constructor
  ·intro h;exact qFO h
  ·intro h;rw[h];exact qF3 _
theorem qcP{ops:Array Oper}{t j:Nat}(h:zd ops t j=true):∃o,ops[j]? =some o∧o.dst=some t:=by
 cases ho:ops[j]? with
 |none=>unfold zd at h;rw[ho]at h;cases h
 |some o=>exact⟨o,rfl,(qhP ho).1 h⟩
structure FrIs (ops:Array Oper) (V:Nat->AV) (F0:List AV) (D:Nat->Bool) (fr:List AV):Prop where
 len:fr.length=F0.length
 get:∀t,t<F0.length->fr[t]? =match zE (λj=>D j&&zd ops t j) ops.size with|some j=>some (V j)|none=>F0[t]?
structure HIs (Φ:Nat->FP) (G:Nat->AH) (N:Nat) (D:Nat->Bool) (H:AH):Prop where
 len:H.length=(G 0).length
 get:∀id,H[id]? =match zE (λj=>D j&&(Φ j).W id) N with|some j=>(G (j+1))[id]? |none=>(G 0)[id]?
def addD(D:Nat->Bool)(i:Nat):Nat->Bool:=λj=>D j||qFY j i
def preD(i:Nat):Nat->Bool:=λj=>Nat.blt j i
theorem qd6(D:Nat->Bool)(i:Nat):addD D i i=true:=by simp[addD]
theorem qc1{D:Nat->Bool}{i j:Nat}(h:j≠i):addD D i j=D j:=by
 unfold addD;have:qFY j i=false:=by rw[←Bool.not_eq_true];intro h';exact h (qFO h')
 rw[this,Bool.or_false]
theorem qwc(i:Nat):preD (i+1)=addD (preD i) i:=by
 funext j
 unfold preD addD;rw[Bool.eq_iff_iff,Bool.or_eq_true,Nat.blt_eq,Nat.blt_eq];constructor
 ·intro h;rcases Nat.lt_or_ge j i with h'|h'
  ·exact .inl h'
  ·have:j=i:=by omega
   subst this;exact .inr (qF3 _)
 ·rintro(h|h)
  ·omega
  ·have:=qFO h;omega
theorem FrIs.add{ops:Array Oper}{V:Nat->AV}{F0:List AV}{D:Nat->Bool}{fr:List AV}(h:FrIs ops V F0 D fr){i:Nat}{o:Oper}(ho:ops[i]? =some o)(hd:∀t j,j≠i->zd ops t j=true->zd ops t i=true->False):
  FrIs ops V F0 (addD D i) (put fr o.dst (V i)):=by
 have hi:i<ops.size:=(Array.getElem?_eq_some_iff.1 ho).1;refine⟨by rw[←h.len];cases o.dst<;>simp[put],λt ht=>?_⟩
 by_cases e:zd ops t i=true
 ·have hdst:=(qhP ho).1 e;rw[qkC (i:=i) (by rw[qd6,e];rfl) hi (λj hj hlt=>by
   have:zd ops t j=false:=by rw[←Bool.not_eq_true];exact λh'=>hd t j (by omega) h' e
   rw[this,Bool.and_false])]
  rw[hdst];simp only[put];rw[qF1,qGq rfl,qGq (by rw[h.len];exact ht)]
 ·have hne:o.dst≠some t:=λh'=>e ((qhP ho).2 h')
  rw[qaF (q:=λj=>D j&&zd ops t j) (λj hj=>by
   by_cases hji:j=i
   ·subst hji;have:zd ops t j=false:=by simpa using e
    rw[this,Bool.and_false,Bool.and_false]
   ·rw[qc1 hji])]
  rw[←h.get t ht];cases hdst:o.dst with
  |none=>rfl
  |some d=>
   simp only[put];rw[qF1,qGr];intro e';subst e';exact hne hdst
theorem HIs.add{Φ:Nat->FP}{G:Nat->AH}{N:Nat}{D:Nat->Bool}(h:HIs Φ G N D H){i:Nat}(hi:i<N)(hd:∀j,D j=true->i<j->∀id,¬((Φ i).W id=true∧(Φ j).W id=true))(hl:H'.length=H.length)(hg:∀id,H'[id]? =if(Φ i).W id=true then(G (i+1))[id]? else H[id]?):HIs Φ G N (addD D i) H':=by
 refine⟨by rw[hl,h.len],λid=>?_⟩;rw[hg id]
 by_cases e:(Φ i).W id=true
 ·rw[qGq e];rw[qkC (i:=i) (by rw[qd6,e];rfl) hi (λj hj hlt=>by
   rw[qc1 (by omega)];cases hD:D j with
   |false=>rfl
   |true=>
    have:=hd j hD hlt id;rw[qGm,←Bool.not_eq_true];exact λh'=>this ⟨e,h'⟩)]
 ·rw[qGr e];rw[qaF (q:=λj=>D j&&(Φ j).W id) (λj hj=>by
   by_cases hji:j=i
   ·subst hji;have:(Φ j).W id=false:=by simpa using e
    rw[this,Bool.and_false,Bool.and_false]
   ·rw[qc1 hji])]
  exact h.get id
theorem FrIs.congr{ops:Array Oper}{V:Nat->AV}{F0:List AV}{D D':Nat->Bool}{fr fr':List AV}(h:FrIs ops V F0 D fr)(h':FrIs ops V F0 D' fr'){t:Nat}(hD:∀j,zd ops t j=true->D j=D' j):fr[t]? =fr'[t]? :=by
 rcases Nat.lt_or_ge t F0.length with ht|ht
 ·rw[h.get t ht,h'.get t ht,qaF (p:=λj=>D j&&zd ops t j) (q:=λj=>D' j&&zd ops t j) (λj _=>by
   cases hd:zd ops t j with
   |false=>rw[Bool.and_false,Bool.and_false]
   |true=>rw[hD j hd])]
 ·rw[List.getElem?_eq_none (by rw[h.len];exact ht),List.getElem?_eq_none (by rw[h'.len];exact ht)]
theorem HIs.congr{Φ:Nat->FP}{G:Nat->AH}{N:Nat}{D D':Nat->Bool}(h:HIs Φ G N D H)(h':HIs Φ G N D' H'){id:Nat}(hD:∀j,j<N->(Φ j).W id=true->D j=D' j):H[id]? =H'[id]? :=by
 rw[h.get id,h'.get id,qaF (p:=λj=>D j&&(Φ j).W id) (q:=λj=>D' j&&(Φ j).W id) (λj hj=>by
  cases hd:(Φ j).W id with
  |false=>rw[Bool.and_false,Bool.and_false]
  |true=>rw[hD j hj hd])]
def qak(L:List Nat)(D:Nat->Bool):Prop:=∀j,D j=true->∀i,(L.getD j 0).testBit i=true->D i=true
noncomputable section
variable {cfg : Cfg} {cf : Orac} {ops : Array Oper} {frz : Nat → Bool} {F : Nat → List AV} {G : Nat → AH} {V : Nat → AV} {B : Nat → Bool} {A : Nat → Nat} {Φ Ψ : Nat → FP} {R : Nat → AH → Bool}
structure DrawOk (cfg:Cfg) (cf:Orac) (ops:Array Oper) (frz:Nat->Bool) (F:Nat->List AV) (G:Nat->AH) (V:Nat->AV) (B:Nat->Bool) (A:Nat->Nat) (Φ Ψ:Nat->FP) (R:Nat->AH->Bool):Prop where
 back:zn 0 ops.toList=true
 stat:∀i j a b,ops[i]? =some a->ops[j]? =some b->i<j->qbS a b=true∧(((ancs [] ops.toList).getD j 0).testBit i=true∨qbT ops a b=true)
 dyn:∀i j,j<ops.size->i<j->((ancs [] ops.toList).getD j 0).testBit i=true∨(Ψ i).indep (Ψ j)=true
 stb:∀i,i<ops.size->Ψ i=Φ i∨∀m,m<=ops.size->R i (G m)=true
 run:∀i o,ops[i]? =some o->DStep cfg cf ops (frz i) o (F i) (F (i+1)) (G i) (G (i+1)) (V i) (B i) (A i) (Φ i) (R i)
theorem DrawOk.dst(h:DrawOk cfg cf ops frz F G V B A Φ Ψ R){t i j:Nat}(hne:j≠i)(hj:zd ops t j=true)(hi:zd ops t i=true):False:=by
 obtain⟨a,ha,hda⟩:=qcP hi;obtain⟨b,hb,hdb⟩:=qcP hj;rcases Nat.lt_or_ge i j with hlt|hge
 ·have:=(h.stat i j a b ha hb hlt).1;unfold qbS at this;rw[hda,hdb]at this;simp at this
 ·have:=(h.stat j i b a hb ha (by omega)).1;unfold qbS at this;rw[hda,hdb]at this;simp at this
theorem DrawOk.pre(h:DrawOk cfg cf ops frz F G V B A Φ Ψ R):∀i,i<=ops.size->FrIs ops V (F 0) (preD i) (F i)∧HIs Φ G ops.size (preD i) (G i)
 |0,_=>⟨⟨rfl,λt ht=>by rw[qfA (λj _=>by simp[preD])]⟩,⟨rfl,λid=>by rw[qfA (λj _=>by simp[preD])]⟩⟩
 |i+1,hi=>by
  obtain⟨h1,h2⟩:=h.pre i (by omega);have hlt:i<ops.size:=by omega
  have ho:=Array.getElem?_eq_getElem hlt;have hs:=h.run i _ ho;rw[qwc];refine⟨by rw[hs.next];exact h1.add ho λt j hne hj hi=>h.dst hne hj hi,?_⟩;have key:(G (i+1)).length=(G i).length∧∀id,(G (i+1))[id]? =if(Φ i).W id=true then(G (i+1))[id]? else(G i)[id]? :=by
   cases hb:B i with
   |true=>
    rw[hb]at hs;obtain⟨H2',e1,e2,e3⟩:=hs.again (fr2:=F i) (H2:=G i) (λ_ _=>rfl) rfl (λ_ _=>rfl);rw[(hs.yes rfl).1]at e1;cases e1;exact⟨e2,e3⟩
   |false=>
    obtain⟨_,e1,e2,_⟩:=hs.no hb;exact⟨by rw[e1],λid=>by rw[e1,e2];simp[FP.W,FP.none,yd]⟩
  exact h2.add hlt (λj hj hij=>by simp[preD,Nat.blt_eq]at hj;omega) key.1 key.2
theorem DrawOk.wr(h:DrawOk cfg cf ops frz F G V B A Φ Ψ R){j:Nat}(hj:j<ops.size){id:Nat}(hw:(Φ j).W id=true):(Ψ j).W id=true:=by
 rcases h.stb j hj with e|e
 ·rw[e];exact hw
 ·obtain⟨_,_,i,hf,_⟩:=(h.run j _ (Array.getElem?_eq_getElem hj)).reads (e 0 (Nat.zero_le _));rw[hf]at hw;simp[FP.W,yd]at hw
theorem qp9{p:Nat->Bool}:∀{n j:Nat},zE p n=some j->j<n
 |0,j,h=>by simp[zE]at h
 |n+1,j,h=>by
  rw[zE]at h;split at h
  ·cases h;omega
  ·have:=qp9 h;omega
theorem DrawOk.ready(h:DrawOk cfg cf ops frz F G V B A Φ Ψ R){D:Nat->Bool}{fr:List AV}(hf:FrIs ops V (F 0) D fr)(hH:HIs Φ G ops.size D H)(hc:qak (ancs [] ops.toList) D){i:Nat}{o:Oper}(ho:ops[i]? =some o)(hi:D i=false)(hanc:∀m,((ancs [] ops.toList).getD i 0).testBit m=true->D m=true)(hDN:∀j,D j=true->j<ops.size):
  y7 ops fr o=some (B i)∧(B i=true->∃H',vZ cfg cf (frz i) (some (A i)) o (opd fr) H=some (V i,H')∧HIs Φ G ops.size (addD D i) H')∧(B i=false->V i= .tup []∧HIs Φ G ops.size (addD D i) H) ∧
   FrIs ops V (F 0) (addD D i) (put fr o.dst (V i)):=by
 have hlt:i<ops.size:=(Array.getElem?_eq_some_iff.1 ho).1;obtain⟨p1,p2⟩:=h.pre i (by omega);have hs:=h.run i o ho;have hslots:∀t∈z3 ops o,fr[t]? =(F i)[t]? :=by
  intro t ht;refine hf.congr p1 λj hj=>?_
  obtain⟨b,hb,hdb⟩:=qcP hj;rcases Nat.lt_trichotomy j i with hji|hji|hji
  ·have:preD i j=true:=by simp[preD,Nat.blt_eq,hji]
   rw[this];rcases(h.stat j i b o hb ho hji).2 with ha|ha
   ·exact hanc j ha
   ·unfold qbT at ha;rw[hdb,qFJ]at ha;have:=ha.1;simp only[Bool.not_eq_true',←Bool.not_eq_true,vL]at this;exact absurd ht this
  ·subst hji;rw[hi];symm;rw[←Bool.not_eq_true];simp[preD,Nat.blt_eq]
  ·have:preD i j=false:=by rw[←Bool.not_eq_true];simp[preD,Nat.blt_eq];omega
   rw[this];rcases(h.stat i j o b ho hb hji).2 with ha|ha
   ·rw[←Bool.not_eq_true];intro hD;rw[hc j hD i ha]at hi;cases hi
   ·unfold qbT at ha;rw[hdb,qFJ]at ha;have:=ha.2;simp only[Bool.not_eq_true',←Bool.not_eq_true,vL]at this;exact absurd ht this
 have hblks:Ψ i=Φ i->∀id,(Φ i).T id=true->H[id]? =(G i)[id]? :=by
  intro hΨ id ht;rw[←hΨ]at ht;refine hH.congr p2 λj hjN hj=>?_
  rcases Nat.lt_trichotomy j i with hji|hji|hji
  ·have:preD i j=true:=by simp[preD,Nat.blt_eq,hji]
   rw[this];rcases h.dyn j i hlt hji with ha|ha
   ·exact hanc j ha
   ·exact absurd ⟨h.wr hjN hj,ht⟩ (qfO ha id).2
  ·subst hji;rw[hi];symm;rw[←Bool.not_eq_true];simp[preD,Nat.blt_eq]
  ·have:preD i j=false:=by rw[←Bool.not_eq_true];simp[preD,Nat.blt_eq];omega
   rw[this];rcases h.dyn i j hjN hji with ha|ha
   ·rw[←Bool.not_eq_true];intro hD;rw[hc j hD i ha]at hi;cases hi
   ·exact absurd ⟨ht,h.wr hjN hj⟩ (qfO ha id).1
 have hww:∀j,D j=true->i<j->∀id,¬((Φ i).W id=true∧(Φ j).W id=true):=by
  intro j hD hij id hWW;have hjN:=hDN j hD;rcases h.dyn i j hjN hij with ha|ha
  ·rw[hc j hD i ha]at hi;cases hi
  ·exact(qfO ha id).2 ⟨h.wr hlt hWW.1,FP.T_of_W (h.wr hjN hWW.2)⟩
 refine⟨by rw[qrt hslots];exact hs.wanted,λhb=>?_,λhb=>?_,hf.add ho λt j hne hj hi=>h.dst hne hj hi⟩
 ·rcases h.stb i hlt with hΨ|hst
  ·rw[hb]at hs;have hlen:H.length=(G i).length:=by rw[hH.len,p2.len]
   obtain⟨H',e1,e2,e3⟩:=hs.again hslots hlen (hblks hΨ);exact⟨H',e1,hH.add hlt hww e2 e3⟩
  ·obtain⟨_,_,id,hf,hev⟩:=hs.reads (hst 0 (Nat.zero_le _));have hm:∃m,m<=ops.size∧H[id]? =(G m)[id]? :=by
    have:=hH.get id;cases hl:zE (λj=>D j&&(Φ j).W id) ops.size with
    |none=>rw[hl]at this;exact⟨0,Nat.zero_le _,this⟩
    |some j=>rw[hl]at this;exact⟨j+1,qp9 hl,this⟩
   obtain⟨m,hm1,hm2⟩:=hm;have e1:=hev (hst m hm1) hslots hm2 (by rw[hH.len,(h.pre m hm1).2.len]);exact⟨H,e1,hH.add hlt hww rfl (λid=>by rw[hf];simp[FP.W,yd])⟩
 ·obtain⟨e0,_,e2,_⟩:=hs.no hb;exact⟨e0,hH.add hlt hww rfl (λid=>by rw[e2];simp[FP.W,FP.none,yd])⟩
end
theorem qak.add{ops:Array Oper}(hb:zn 0 ops.toList=true){D:Nat->Bool}(h:qak (ancs [] ops.toList) D){i:Nat}{o:Oper}(ho:ops[i]? =some o)(hr:∀m,binds o m->D m=true):
  (∀m,((ancs [] ops.toList).getD i 0).testBit m=true->D m=true)∧qak (ancs [] ops.toList) (addD D i):=by
 have hanc:∀m,((ancs [] ops.toList).getD i 0).testBit m=true->D m=true:=by
  intro m hm;obtain⟨k,h1,_,h3⟩:=qzi hb ho hm;rcases h3 with h3|h3
  ·subst h3;exact hr k h1
  ·exact h k (hr k h1) m h3
 refine⟨hanc,λj hj m hm=>?_⟩
 by_cases e:j=i
 ·subst e;have:=hanc m hm;unfold addD;rw[this];rfl
 ·rw[qc1 e]at hj;have:=h j hj m hm;unfold addD;rw[this];rfl
variable {C C' C1 C2 : qk} {μ μ' μ1 : MMap} {H H' H1 H2 : AH} {w w' w1 : World} {P : Program}
theorem qoh{p q:Nat->Bool}(h:∀j,q j=true->p j=true){i:Nat}(hp:p i=true)(hq:q i=false):∀{l:List Nat},i∈l->l.countP q<l.countP p
 |[],hi=>by cases hi
 |x::l,hi=>by
  have hle:l.countP q<=l.countP p:=List.countP_mono_left λj _ hj=>h j hj
  rw[List.countP_cons,List.countP_cons]
  by_cases e:i=x
  ·subst e;rw[hp,hq];simp;omega
  ·have:=qoh h hp hq ((qF6.1 hi).resolve_left e);cases hqx:q x with
   |true=>rw[h x hqx];simp;omega
   |false=>
    cases p x<;>simp<;>omega
theorem qqy(listed:Array Bool){i:Nat}(hi:i<listed.size):(λj=>(listed.setIfInBounds i true).getD j false)=addD (λj=>listed.getD j false) i:=by
 funext j
 rw[Array.getD_eq_getD_getElem?,Array.getElem?_setIfInBounds]
 by_cases e:i=j
 ·subst e;rw[qGq rfl,qGq hi,qd6];rfl
 ·rw[qGr e,qc1 (λh=>e h.symm),Array.getD_eq_getD_getElem?]
theorem qcZ{listed:Array Bool}{j:Nat}(hj:j<listed.size):listed.getD j true=listed.getD j false:=by
 rw[Array.getD_eq_getD_getElem?,Array.getD_eq_getD_getElem?,Array.getElem?_eq_getElem hj];rfl
def unl(N:Nat)(listed:Array Bool):Nat:=(qGn N).countP λj=> !listed.getD j true
theorem qv1{ops:Array Oper}(hb:zn 0 ops.toList=true){listed:Array Bool}(hs:listed.size=ops.size)(hr:Region.ready .any ops listed=[]):∀j,j<ops.size->listed.getD j false=true:=by
 intro j
 induction j using Nat.strongRecOn with
 |_ j ih=>
  intro hj;rw[←Bool.not_eq_false];intro hf;have hmem:j∈Region.ready .any ops listed:=by
   refine mem_ready.2 ⟨by rw[qcZ (by omega)];exact hf,ops[j],Array.getElem?_eq_getElem hj,λe he hbe=>?_⟩;have hlt:e.on<j:=by
    have hback:∀(l:List Oper) (k j:Nat) (o:Oper),zn k l=true->l[j]? =some o->∀e∈o.after.toList,Region.binds .any e=true->e.on<k+j:=by
     intro l
     induction l with
     |nil=>intro k j o _ h;simp at h
     |cons o' l ih=>
      intro k j o hb hj e he hbe;rw[zn,qFJ]at hb;cases j with
      |zero=>
       simp at hj;subst hj;have:=List.all_eq_true.1 hb.1 e he;rw[hbe]at this
       simpa [Nat.blt_eq]using this
      |succ j=>
       have:=ih (k+1) j o hb.2 (by simpa using hj) e he hbe;omega
    have:=hback ops.toList 0 j ops[j] hb (by rw[Array.getElem?_toList];exact Array.getElem?_eq_getElem hj) e (Array.mem_toList_iff.2 he) hbe;omega
   exact ih e.on hlt (by omega)
  rw[hr]at hmem;cases hmem
theorem qyX[Lent]{cfg:Cfg}(hc:CfgTy cfg){cf:Orac}(hO:qaj cfg cf){Fn:Fence}(hF:zJ Fn){ops:Array Oper}{frz:Nat->Bool}{F:Nat->List AV}{G:Nat->AH}{V:Nat->AV}{B:Nat->Bool}{A:Nat->Nat}{Φ Ψ:Nat->FP}{R:Nat->AH->Bool}(hd:DrawOk cfg cf ops frz F G V B A Φ Ψ R){Q:Exit->Act->World->Prop}{C0:qk}{μ0:MMap}{H0:AH}{w0:World}{k:Nat}{ds:List Deferred}(hq:∀C μ w a,qy C μ (F ops.size) a.tmps->Wld C μ (G ops.size) w->Ext k C0 μ0 H0 w0 C μ (G ops.size) w->a.defers=ds->Q .normal a w):
  ∀(fuel:Nat) (listed:Array Bool) {fr:List AV} {H:AH} {C:qk} {μ:MMap} {w:World} {a:Act},listed.size=ops.size->unl ops.size listed<=fuel->FrIs ops V (F 0) (λj=>listed.getD j false) fr ->
   HIs Φ G ops.size (λj=>listed.getD j false) H->qak (ancs [] ops.toList) (λj=>listed.getD j false)->qy C μ fr a.tmps->Wld C μ H w->Ext k C0 μ0 H0 w0 C μ H w->a.defers=ds ->
   wpAnyIn Fn 0 cfg.P .any ops Q fuel listed a w:=by
 have done:∀{listed:Array Bool} {fr:List AV} {H:AH} {C:qk} {μ:MMap} {w:World} {a:Act},(∀j,j<ops.size->listed.getD j false=true)->FrIs ops V (F 0) (λj=>listed.getD j false) fr ->
   HIs Φ G ops.size (λj=>listed.getD j false) H->qy C μ fr a.tmps->Wld C μ H w->Ext k C0 μ0 H0 w0 C μ H w->a.defers=ds->Q .normal a w:=by
  intro listed fr H C μ w a hall hfi hhi hfr hw hx hds;obtain⟨p1,p2⟩:=hd.pre ops.size (qFH _);have e1:fr=F ops.size:=List.ext_getElem? λt=>hfi.congr p1 λj hj=>by
   obtain⟨o,ho,_⟩:=qcP hj;have hlt:=(Array.getElem?_eq_some_iff.1 ho).1;rw[hall j hlt];simp[preD,Nat.blt_eq,hlt]
  have e2:H=G ops.size:=List.ext_getElem? λid=>hhi.congr p2 λj hj _=>by
   rw[hall j hj];simp[preD,Nat.blt_eq,hj]
  subst e1;subst e2;exact hq C μ w a hfr hw hx hds
 have step:∀(i:Nat) (K:Act->World->Prop) {listed:Array Bool} {fr:List AV} {H:AH} {C:qk} {μ:MMap} {w:World} {a:Act},i∈Region.ready .any ops listed->listed.size=ops.size->FrIs ops V (F 0) (λj=>listed.getD j false) fr ->
   HIs Φ G ops.size (λj=>listed.getD j false) H->qak (ancs [] ops.toList) (λj=>listed.getD j false)->qy C μ fr a.tmps->Wld C μ H w->Ext k C0 μ0 H0 w0 C μ H w->a.defers=ds ->
   (∀{fr:List AV} {H:AH} {C:qk} {μ:MMap} {w:World} {a:Act},FrIs ops V (F 0) (λj=>(listed.setIfInBounds i true).getD j false) fr ->
    HIs Φ G ops.size (λj=>(listed.setIfInBounds i true).getD j false) H->qak (ancs [] ops.toList) (λj=>(listed.setIfInBounds i true).getD j false)->qy C μ fr a.tmps->Wld C μ H w->Ext k C0 μ0 H0 w0 C μ H w->a.defers=ds->K a w) ->
   wpOpIn Fn 0 cfg.P ops Q i K a w:=by
  intro i K listed fr H C μ w a hr hs hfi hhi hac hfr hw hx hds hK;obtain⟨hun,o,ho,hed⟩:=mem_ready.1 hr;have hlt:i<ops.size:=(Array.getElem?_eq_some_iff.1 ho).1;have hDi:listed.getD i false=false:=by rw[←qcZ (by omega)];exact hun
  obtain⟨hanc,hac'⟩:=hac.add hd.back ho (λm ⟨e,he,hbe,hm⟩=>by subst hm;exact hed e (Array.mem_toList_iff.1 he) hbe);obtain⟨r1,r2,r3,r4⟩:=hd.ready hfi hhi hac ho hDi hanc (λj hj=>by
   rcases Nat.lt_or_ge j ops.size with h|h
   ·exact h
   ·rw[Array.getD_eq_getD_getElem?,Array.getElem?_eq_none (by omega)]at hj;simp at hj)
  have hwan:=qda hfr r1;rw[←qqy listed (by omega)]at hac' r4 r2 r3;unfold wpOpIn;simp only[ho];cases hb:B i with
  |true=>
   rw[hb]at hwan;rw[qGq hwan];obtain⟨H',e1,e2⟩:=r2 hb;refine qhv hF ((qdw hc hO (qbI hfr) hw e1).mono λv w1 ⟨C1,μ1,g1,g2,g3⟩=>?_);have hf1:qy C1 μ1 fr a.tmps:=hfr.monoG g3.cl (λid m hm=>g3.mu id m (hw.dom id m hm) hm);exact hK r4 e2 hac' (qbG hf1 g1) g2 (hx.trans g3 hx.len) (by rw[qaq];exact hds)
  |false=>
   rw[hb]at hwan;rw[qGr (by rw[hwan];simp)];obtain⟨e0,e2⟩:=r3 hb;rw[e0]at r4;exact⟨λf _=>hF.fn f,hK r4 e2 hac' (qbG hfr qhn) hw hx (by rw[qaq];exact hds)⟩
 intro fuel
 induction fuel with
 |zero=>
  intro listed fr H C μ w a hs hu hfi hhi hac hfr hw hx hds;have hall:∀j,j<ops.size->listed.getD j false=true:=by
   intro j hj;have h0:unl ops.size listed=0:=by omega
   unfold unl at h0;rw[List.countP_eq_zero]at h0;have:=h0 j (List.mem_range.2 hj);rw[qcZ (by omega)]at this
   simpa using this
  refine⟨?_,done hall hfi hhi hfr hw hx hds⟩;cases hr:Region.ready .any ops listed with
  |nil=>rfl
  |cons i l=>
   have hi:i∈Region.ready .any ops listed:=by rw[hr];exact List.mem_cons_self ..
   obtain⟨hun,o,ho,_⟩:=mem_ready.1 hi;have hlt:i<ops.size:=(Array.getElem?_eq_some_iff.1 ho).1;have:=hall i hlt;rw[←qcZ (by omega),hun]at this;cases this
 |succ fuel ih=>
  intro listed fr H C μ w a hs hu hfi hhi hac hfr hw hx hds;refine⟨λhr=>done (qv1 hd.back hs hr) hfi hhi hfr hw hx hds,λi hi=>step i _ hi hs hfi hhi hac hfr hw hx hds ?_⟩;intro fr' H' C' μ' w' a' f1 f2 f3 f4 f5 f6 f7;refine ih (listed.setIfInBounds i true) (by simpa using hs) ?_ f1 f2 f3 f4 f5 f6 f7;obtain⟨hun,o,ho,_⟩:=mem_ready.1 hi;have hlt:i<ops.size:=(Array.getElem?_eq_some_iff.1 ho).1;have:unl ops.size (listed.setIfInBounds i true)<unl ops.size listed:=by
   unfold unl;refine qoh (λj hj=>?_) (i:=i) (by rw[hun];rfl) ?_ (List.mem_range.2 hlt)
   ·rw[Array.getD_eq_getD_getElem?,Array.getElem?_setIfInBounds]at hj
    by_cases e:i=j
    ·subst e;rw[qGq rfl,qGq (by omega)]at hj;simp at hj
    ·rw[qGr e]at hj;rw[Array.getD_eq_getD_getElem?];exact hj
   ·rw[Array.getD_eq_getD_getElem?,Array.getElem?_setIfInBounds,qGq rfl,qGq (by omega)];rfl
  omega
theorem qu6[Lent]{cfg:Cfg}(hc:CfgTy cfg){cf:Orac}(hO:qaj cfg cf)(hm:cfg.P.follows .mixedOrders=true){Fn:Fence}(hF:zJ Fn){f rid:Nat}{ops:Array Oper}{fr:List AV}{fps:List DR}{fr':List AV}{a:Act}(hst:qfS ops=true)(he:zO cfg cf f rid ops 0 H.length ops.toList fr (H++qGd (places cfg ops.toList) .res)=some (fps,fr',H'))(hdy:qi4 (ancs [] ops.toList) (H++qGd (places cfg ops.toList) .res) fps=true)(hf:qy C μ fr a.tmps)(hw:Wld C μ H w){Q:Exit->Act->World->Prop}(hq:∀C' μ' w' a',qy C' μ' fr' a'.tmps->Wld C' μ' H' w'->Ext H.length C μ H w C' μ' H' w'->a'.defers=a.defers->Q .normal a' w'):(Code.region rid ops true).wpIn Fn 0 cfg.P Q a w:=by
 obtain⟨F,G,V,B,A,Φ,R,e1,e2,e3,e4,e5,e6⟩:=qmp ops.toList 0 H.length he;simp only[qGi,Array.length_toList]at e3 e4 e5 e6;unfold qfS at hst;rw[qFJ,qFJ]at hst;replace hst:=hst.2;have hdd:∃Ψ:Nat->FP,(∀i j,j<ops.size->i<j->((ancs [] ops.toList).getD j 0).testBit i=true∨(Ψ i).indep (Ψ j)=true)∧∀i,i<ops.size->Ψ i=Φ i∨∀m,m<=ops.size->R i (G m)=true:=by
  unfold qi4 at hdy;rw[Bool.or_eq_true]at hdy;rcases hdy with hdy|hdy
  ·refine⟨Φ,λi j hj hlt=>?_,λi _=>.inl rfl⟩;have:=qfR _ 0 hdy i j _ _ (by rw[List.getElem?_map,e5 i (by omega)];rfl) (by rw[List.getElem?_map,e5 j hj];rfl) hlt
   simpa using this
  ·refine⟨λi=>stab (H++qGd (places cfg ops.toList) .res) fps ⟨Φ i,G (i+1),R i⟩,λi j hj hlt=>?_,λi hi=>?_⟩
   ·have:=qfR _ 0 hdy i j _ _ (by rw[List.getElem?_map,e5 i (by omega)];rfl) (by rw[List.getElem?_map,e5 j hj];rfl) hlt
    simpa using this
   ·show(if(R i (H++qGd (places cfg ops.toList) .res)&&qmK (R i) fps)=true then FP.none else Φ i)=Φ i∨_;split
    ·rename_i hc;rw[qFJ]at hc;refine .inr λm hm=>?_
     have hall:∀(l:List DR),qmK (R i) l=true->∀(k:Nat) d,l[k]? =some d->R i d.hp=true:=by
      intro l
      induction l with
      |nil=>intro _ k d hk;simp at hk
      |cons d l ih=>
       intro hl k d' hk;rw[qmK,qFJ]at hl;cases k with
       |zero=>simp at hk;subst hk;exact hl.1
       |succ k=>exact ih hl.2 k d' (by simpa using hk)
     cases m with
     |zero=>rw[e2];exact hc.1
     |succ m=>exact hall fps hc.2 m _ (e5 m (by omega))
    ·exact .inl rfl
 obtain⟨Ψ,hdyn,hstb⟩:=hdd;have hd:DrawOk cfg cf ops (λk=>cfg.frz f rid k) F G V B A Φ Ψ R:=by
  refine⟨hst.1,λi j a b hi hj hlt=>?_,hdyn,hstb,λi o ho=>e6 i o (by rw[Array.getElem?_toList];exact ho)⟩
  ·have:=qjL ops.toList 0 hst.2 i j a b (by rw[Array.getElem?_toList];exact hi) (by rw[Array.getElem?_toList];exact hj) hlt
   simpa using this
 refine wpIn_region_any hm ?_;have hlist:(λj=>(Array.replicate ops.size false).getD j false)=preD 0:=by
  funext j
  rw[Array.getD_eq_getD_getElem?];have hp:preD 0 j=false:=by rw[←Bool.not_eq_true];simp[preD,Nat.blt_eq]
  rw[hp];rcases Nat.lt_or_ge j ops.size with h|h
  ·simp[h]
  ·simp[h]
 obtain⟨p1,p2⟩:=hd.pre 0 (Nat.zero_le _);have hx0:Ext H.length C μ H w C μ (H++qGd (places cfg ops.toList) .res) { w with drawn:=w.drawn+1 }:=
  ⟨rfl,rfl,rfl,qFH _,λ_ _ _ h=>h,λ_ _ _ h=>⟨_,h,.refl _⟩,λb _ hnl=>⟨rfl,λhl=>hnl hl.places,rfl⟩,by simp⟩
 refine qyX hc hO hF hd (C0:=C) (μ0:=μ) (H0:=H) (w0:=w) (k:=H.length) (ds:=a.defers) (λC' μ' w' a' g1 g2 g3 g4=>?_) ops.size (Array.replicate ops.size false) (fr:=F 0) (H:=G 0) (by simp) ?_ (by rw[hlist];exact p1) (by rw[hlist];exact p2) (by rw[hlist];intro j hj;simp[preD]at hj)
  (by rw[e1];exact hf) (by rw[e2];exact(hw.places _).heap rfl) (by rw[e2];exact hx0) rfl
 ·rw[e3]at g1;rw[e4]at g2 g3;exact hq C' μ' w' a' g1 g2 g3 g4
 ·unfold unl;have:=List.countP_le_length (p:=λj=> !(Array.replicate ops.size false).getD j true) (l:=qGn ops.size)
  simpa using this
variable {C C' C1 C2 : qk} {μ μ' μ1 : MMap} {H H' H1 H2 : AH} {w w' w1 : World} {P : Program}
noncomputable section
variable {F : Fence} {n : Nat} {Q : Exit → Act → World → Prop} {a : Act} {b : Frame} {k : List Item} {cs : List Frame}
theorem zq{c:Code}:step P (lone (b.atR a (.code (.scope c)::k)) cs w)= .next (lone (b.atR a (.code c:: .inScope c::k)) cs w):=
 step_lone_go (by simp[stepG,stepG.exec,Frame.atR])
theorem qm4{c:Code}:step P (lone (b.atR a (.inScope c::k)) cs w)= .next (lone (b.atR a k) cs w):=
 step_lone_go (by simp[stepG,stepG.exec,Frame.atR])
theorem qrk{c:Code}(h:c.wpIn F n P Q a w)(hg:∀l a w,¬Q (.goto l) a w):(Code.scope c).wpIn F n P Q a w:=by
 intro b k cs hro hb hr;have h0:(lone (b.atR a (.code (.scope c)::k)) cs w).fenced P F:=fenced_calm hb hr rfl;obtain⟨e,a₁,w₁,hq,harr⟩:=h b (.inScope c::k) cs hro hb hr;cases e with
 |normal=>exact⟨.normal,a₁,w₁,hq,.head h0 zq (StepsIn.trans harr (.one (fenced_calm hb hr rfl) qm4))⟩
 |exit id=>
  have hx:exitTo id (.inScope c::k)=exitTo id k:=by simp[exitTo]
  exact⟨.exit id,a₁,w₁,hq,λk' hk=>.head h0 zq (harr.1 k' (by rw[hx];exact hk)),
   λhr' hk=>let⟨k₁,h1,h2⟩:=harr.2 hr' (by rw[hx];exact hk);⟨k₁,h1,.head h0 zq h2⟩⟩
 |goto l=>exact absurd hq (hg l _ _)
 |ret=>exact⟨_,a₁,w₁,hq,.of_steps (.one h0 zq) harr⟩
 |panic ch=>exact⟨_,a₁,w₁,hq,.of_steps (.one h0 zq) harr⟩
 |outgrown=>exact⟨_,a₁,w₁,hq,.of_steps (.one h0 zq) harr⟩
end
def mark(D:Nat):Deferred:={ target:=.collected D,args:= #[] }
def qcR(B:Nat)(μ:MMap)(H:AH)(w:World)(ds:List Deferred):Prop:=
 B<=w.heap.size∧∃Ds:List Nat,ds=Ds.map mark∧Ds.Nodup∧∀D∈Ds,B<=D∧w.heap[D]? =some (.deferred (some []))∧¬Live H μ D
theorem qcR.ext{B k:Nat}{ds:List Deferred}(h:qcR B μ H w ds)(hx:Ext k C μ H w C' μ' H' w'):qcR B μ' H' w' ds:=by
 obtain⟨hb,Ds,h1,h2,h3⟩:=h;refine⟨Nat.le_trans hb hx.size,Ds,h1,h2,λD hD=>?_⟩;obtain⟨e1,e2,e3⟩:=h3 D hD;obtain⟨f1,f2,_⟩:=hx.fr D (Array.getElem?_eq_some_iff.1 e2).1 e3;exact⟨e1,by rw[f1];exact e2,f2⟩
def Ex.to:Ex->Exit
 | .normal=>.normal
 | .exit id=>.exit id
 | .goto l=>.goto l
 | .ret=>.ret
def qaQ[Lent](k B:Nat)(C:qk)(μ:MMap)(H:AH)(w:World)(r:Ex×List AV×AH):Exit->Act->World->Prop:=λe a' w'=>
 e=r.1.to∧∃C' μ',qy C' μ' r.2.1 a'.tmps∧Wld C' μ' r.2.2 w'∧Ext k C μ H w C' μ' r.2.2 w'∧qcR B μ' r.2.2 w' a'.defers
theorem qaQ.mono[Lent]{k k' B:Nat}{r:Ex×List AV×AH}{e:Exit}{a':Act}{w2:World}(h:qaQ k' B C1 μ1 H1 w1 r e a' w2)(hx:Ext k C μ H w C1 μ1 H1 w1)(hk:k<=k'):qaQ k B C μ H w r e a' w2:=by
 obtain⟨h1,C',μ',h2,h3,h4,h5⟩:=h;exact⟨h1,C',μ',h2,h3,hx.trans h4 hk,h5⟩
def RdOk(rd:Option Nat)(F:Fence)(μ:MMap)(k:Nat):Prop:=
 match rd with
 |none=>F=Fence.wide
 |some l=>l<k∧∃m,μ l=some m∧F=Fence.wide.inRound m.block
theorem RdOk.wide{rd:Option Nat}{F:Fence}{k:Nat}(h:RdOk rd F μ k):zJ F:=by
 cases rd with
 |none=>exact .inl h
 |some l=>obtain⟨_,m,_,h⟩:=h;exact .inr ⟨_,h⟩
theorem RdOk.ext{rd:Option Nat}{F:Fence}{k k':Nat}(h:RdOk rd F μ k)(hm:∀id m,id<k->μ id=some m->∃m',μ' id=some m'∧m.le m')(hk:k<=k'):RdOk rd F μ' k':=by
 cases rd with
 |none=>exact h
 |some l=>obtain⟨h1,m,h2,h3⟩:=h;obtain⟨m',e1,e2⟩:=hm l m h1 h2;exact⟨by omega,m',e1,by rw[e2.1];exact h3⟩
theorem qcJ:∀{ts:List Tmp} {fr:List AV} {k:Nat},(zN k ts fr).length=fr.length∧∀(i:Nat) a,(zN k ts fr)[i]? =some a->a= .junk∨fr[i]? =some a
 |_,[],_=>by simp[zN]
 |[],x::fr,k=>by
  have ih:=qcJ (ts:=[]) (fr:=fr) (k:=k);refine⟨by simp[zN,ih.1],λi a h=>?_⟩;cases i with
  |zero=>simp[zN]at h;exact .inl h.symm
  |succ i=>simp[zN]at h;simpa using ih.2 i a h
 |t::ts,x::fr,k=>by
  have ih1:=qcJ (ts:=ts) (fr:=fr) (k:=k+1);have ih2:=qcJ (ts:=t::ts) (fr:=fr) (k:=k+1);rw[zN];split
  ·refine⟨by simp[ih1.1],λi a h=>?_⟩;cases i with
   |zero=>simp at h;subst h;exact .inr rfl
   |succ i=>simpa using ih1.2 i a (by simpa using h)
  ·refine⟨by simp[ih2.1],λi a h=>?_⟩;cases i with
   |zero=>simp at h;exact .inl h.symm
   |succ i=>simpa using ih2.2 i a (by simpa using h)
theorem qas[Lent]{ts:Option (List Tmp)}{fr:List AV}{t:Array Value}(h:qy C μ fr t):qy C μ (xk ts fr) t:=by
 cases ts with
 |none=>exact h
 |some ks=>
  obtain⟨h1,h2⟩:=qcJ (ts:=ks) (fr:=fr) (k:=0);refine⟨by show(zN 0 ks fr).length=_;rw[h1,h.1],λi a v e1 e2=>?_⟩;rcases h2 i a e1 with rfl|e3
  ·exact .junk v
  ·exact h.2 i a v e3 e2
theorem qcI[Lent]:∀(ls:List (Tmp×Nat)) {H:AH} {fr:List AV} {tmps:Array Value},Wld C μ H w->qy C μ fr tmps ->
  Wld C μ (xf ls fr H).2 w∧qy C μ (xf ls fr H).1 tmps∧H.length<=(xf ls fr H).2.length∧∀j,j<=H.length->Ext j C μ H w C μ (xf ls fr H).2 w
 |[],H,fr,tmps,h,hf=>⟨h,hf,qFH _,λj hj=>Ext.refl hj⟩
 |p::l,H,fr,tmps,h,hf=>by
  obtain⟨a1,a2,a3,a4⟩:=qr9 h hf p.1 p.2;obtain⟨b1,b2,b3,b4⟩:=qcI l a1 a2;exact⟨b1,b2,Nat.le_trans a3 b3,λj hj=>(a4 j hj).trans (b4 j (Nat.le_trans hj a3)) (qFH _)⟩
theorem qqw[Lent](h:Wld C μ H w){fr:List AV}{tmps:Array Value}(hf:qy C μ fr tmps)(ts:Option (List Tmp))(ls:List (Tmp×Nat))(k:Nat)(hk:k<=H.length):
  ∃μ',Wld C μ' (qbr k ts ls fr H).2 w∧qy C μ' (qbr k ts ls fr H).1 tmps∧Ext k C μ H w C μ' (qbr k ts ls fr H).2 w:=by
 obtain⟨a1,a2,a3,a4⟩:=qcI ls h (qas (ts:=ts) hf);obtain⟨μ',g1,g2,g3⟩:=qqA a1 a2 k (Nat.le_trans hk a3);exact⟨μ',g1,g2,(a4 k hk).trans g3 (qFH _)⟩
theorem qbN{α:Type}{g:Nat->Option α}{r:α}(h:lim g=some r):∃n,g n=some r:=by
 unfold lim at h;split at h
 ·rename_i he;cases h;exact⟨_,Classical.choose_spec (Classical.choose_spec he)⟩
 ·cases h
theorem qj5[Lent]{F:Fence}{k B:Nat}{ts:Option (List Tmp)}{ls:List (Tmp×Nat)}{body:Den}{c:Code}{rd:Option Nat}{r:Ex×List AV×AH}{C0:qk}{μ0:MMap}{H0:AH}{w0:World}(hbody:∀{fr:List AV} {H:AH} {q:Ex×List AV×AH},body fr H=some q->∀{C:qk} {μ:MMap} {w:World} {a:Act},k<=H.length->RdOk rd F μ k->qy C μ fr a.tmps->Wld C μ H w->qcR B μ H w a.defers->c.wpIn F 0 P (qaQ k B C μ H w q) a w)(hk:k<=H0.length):∀(n:Nat) {p:List AV×AH},qat k ts ls body n p=some r->∀{C:qk} {μ:MMap} {w:World} {a:Act},k<=p.2.length->RdOk rd F μ k->qy C μ p.1 a.tmps->Wld C μ p.2 w->qcR B μ p.2 w a.defers ->
   Ext k C0 μ0 H0 w0 C μ p.2 w->Code.roundsIn F 0 P c (qaQ k B C0 μ0 H0 w0 r) n a w
 |0,p,h=>by cases h
 |n+1,p,h=>by
  intro hkl hrd hf hw hm hx;rw[qat]at h;obtain⟨q,hq,h⟩:=qFL.1 h;refine wpIn_mono (hbody hq hkl hrd hf hw hm) λe a' w' hp=>?_
  obtain⟨he,C',μ'',p1,p2,p3,p4⟩:=hp;have hx':=hx.trans p3 (qFH _);cases hq1:q.1 with
  |normal=>
   rw[hq1]at he h;subst he;obtain⟨μ',g1,g2,g3⟩:=qqw p2 p1 ts ls k hx'.len;exact qj5 hbody hk n h g3.len ((hrd.ext p3.mu (qFH _)).ext g3.mu (qFH _)) g2 g1 (p4.ext g3) (hx'.trans g3 (qFH _))
  |exit id=>
   rw[hq1]at he h;cases h;subst he;exact⟨rfl,C',μ'',p1,p2,hx',p4⟩
  |goto l=>
   rw[hq1]at he h;cases h;subst he;exact⟨rfl,C',μ'',p1,p2,hx',p4⟩
  |ret=>
   rw[hq1]at he h;cases h;subst he;exact⟨rfl,C',μ'',p1,p2,hx',p4⟩
variable {C C' C1 C2 : qk} {μ μ' μ1 : MMap} {H H' H1 H2 : AH} {w w' w1 : World} {P : Program}
structure OracOk2 [Lent] (cfg:Cfg) (cf:Orac):Prop where
 calls:qaj cfg cf
 enters:∀h args H r,cf (.f h) args H=some r->cfg.ext h=none->∀vs w,(callFunc h vs).run cfg.P w= .ok (.enter h vs) w
theorem qyE[Lent](h:Wld C μ H w){f:Nat}{fr:List AV}{assign body:Code}{ps:Array Tmp}{fn:FuncId}{tmps:Array Value}{dblk:Nat}(hf:qy C μ fr tmps)(hs:w.heap.size<w1.heap.size)(hold:∀b,b<w.heap.size->w1.heap[b]? =w.heap[b]?){l:Nat}(hl:w.heap.size<=l)(hnew:w1.heap[l]? =some (.loop { state:=.ready,pending:=none,fn,tmps,params:=ps,assign,body,defers:=dblk }))(ho:w1.os=w.os)(ht:w1.tape=w.tape)(hu:w1.output=w.output):
  Wld C (upd μ H.length (MI.mk4 l 0 0 0)) (H++[.loop f fr ps.toList assign body none .ready]) w1∧Ext H.length C μ H w C (upd μ H.length (MI.mk4 l 0 0 0)) (H++[.loop f fr ps.toList assign body none .ready]) w1 ∧
   (∀id m,μ id=some m->upd μ H.length (MI.mk4 l 0 0 0) id=some m)∧(∀b,Live (H++[.loop f fr ps.toList assign body none .ready]) (upd μ H.length (MI.mk4 l 0 0 0)) b->Live H μ b∨b=l):=by
 have hll:l<w1.heap.size:=(Array.getElem?_eq_some_iff.1 hnew).1;have hw1:Wld C μ H w1:=h.world (by omega) (λb hb=>hold b hb);have hmu:∀id m,μ id=some m->upd μ H.length (MI.mk4 l 0 0 0) id=some m:=by
  intro id m hm;have:=h.dom id m hm;unfold upd;rw[qGr (by omega)];exact hm
 obtain⟨n1,n2,n3,n4,n5⟩:=hw1.new4 (nid:=none) (k:=H.length) (blk:=.loop f fr ps.toList assign body none .ready) (H':=H++[.loop f fr ps.toList assign body none .ready]) (B:=l) (b0:=0) (n0:=0) (z0:=0) rfl (λhl'=>by have:=h.live_lt hl';omega) hll
  (λo=>by
   cases hc:C l o with
   |none=>rfl
   |some v=>have:=h.block_lt hc;omega) (h.lent_none hl) rfl ⟨_,hnew,rfl,rfl,rfl,rfl,rfl,hf.mono (λ_ _ _ h=>h) hmu⟩
 refine⟨n1,⟨ho,ht,hu,by omega,λ_ _ _ h=>h,λid m _ hm=>⟨_,hmu id m hm,.refl _⟩,λb hb hnl=>⟨hold b hb,λhl'=>?_,rfl⟩,n3⟩,hmu,n4⟩;rcases n4 b hl' with h1|h1
 ·exact hnl h1
 ·omega
theorem qlu[Lent]{cfg:Cfg}{cf:Orac}(hO:OracOk2 cfg cf){F:Fence}{rd:Option Nat}{f B k:Nat}{g:Operand}{ps:Array Tmp}{assign body:Code}{fr:List AV}{r:Ex×List AV×AH}{a:Act}(he:qe2 cfg cf f rd k g ps assign body fr H=some r)(hk:k<=H.length)(hrd:RdOk rd F μ k)(hf:qy C μ fr a.tmps)(hw:Wld C μ H w)(hm:qcR B μ H w a.defers):
  (Code.rangeFunc g ps assign body).wpIn F 0 cfg.P (qaQ k B C μ H w r) a w:=by
 have hrd:=hrd.ext (λ_ _ _ h=>⟨_,h,.refl _⟩) hk;unfold qe2 at he;split at he
 case isFalse=>cases he
 rename_i hrl;split at he
 case h_2=>cases he
 rename_i h first caps hg;split at he
 case isTrue=>cases he
 rename_i hext;have hext:cfg.ext h=none:=by
  cases hh:cfg.ext h with
  |none=>rfl
  |some s=>rw[hh]at hext;simp at hext
 obtain⟨q,hq,he⟩:=qFL.1 he;have hgr:=qbI hf g;rw[hg]at hgr;generalize hgv:a.eval g=gv at hgr;cases hgr with
 |fn _ _ _ vf vc hl1 hl2 h1 h2=>
 refine wpIn_rangeFunc λfn hfn=>?_
 have hwide:=hrd.wide;have hmf:qy C μ (xk (cfg.keepIn f (qm body)) fr) a.tmps:=qas hf
 -- what lies behind the loop
 have core:∀(l:Nat) (ms:List Deferred) (w1:World) (dblk:Nat),w.heap.size<w1.heap.size->(∀b,b<w.heap.size->w1.heap[b]? =w.heap[b]?)->w.heap.size<=l ->
   w1.heap[l]? =some (.loop { state:=.ready,pending:=none,fn,tmps:=a.tmps,params:=ps,assign,body,defers:=dblk })->w1.os=w.os->w1.tape=w.tape->w1.output=w.output ->
   (ms=[]∨∃D,ms=[mark D]∧w.heap.size<=D∧D≠l∧w1.heap[D]? =some (.deferred (some []))) ->
   CallsIn F (0 - 1) cfg.P h (vf.toArray++ #[.func (.yield l) #[] #[]]++vc.toArray) w1 (rangePost F 0 cfg.P l (qaQ k B C μ H w r) { a with defers:=ms++a.defers }):=by
  intro l ms w1 dblk hs hold hl hnew ho ht hu hms;obtain⟨g1,g2,g3,g4⟩:=qyE (f:=f) hw hmf hs hold hl hnew ho ht hu;have hargs:qy C (upd μ H.length (MI.mk4 l 0 0 0)) (first++[.yld H.length]++caps) (vf.toArray++ #[.func (.yield l) #[] #[]]++vc.toArray):=by
   refine⟨by simp[hl1,hl2],λi x v e1 e2=>?_⟩;rw[←Array.getElem?_toList]at e2;simp only[Array.toList_append]at e2;rcases Nat.lt_or_ge i (first.length+1)with hlt|hge
   ·rw[qFX (by simpa using hlt)]at e1;rw[qFX (by first|omega|(simp;omega))]at e2;rcases Nat.lt_or_ge i first.length with hlt'|hge'
    ·rw[qFX hlt']at e1;rw[qFX (by first|omega|(simp;omega))]at e2;exact(h1 i x v e1 (by simpa using e2)).mono (λ_ _ _ h=>h) g3
    ·have hi:i=first.length:=by omega
     subst hi;rw[qF0 (qFH _)]at e1;rw[qF0 (by first|omega|(simp;omega))]at e2;simp[hl1]at e1 e2;subst e1;subst e2;exact .yld H.length (MI.mk4 l 0 0 0) (by unfold upd;rw[qGq rfl])
   ·rw[qF0 (by simpa using hge)]at e1;rw[qF0 (by first|omega|(simp;omega))]at e2;have:i - (vf.toArray.toList++ #[Value.func (.yield l) #[] #[]].toList).length=i - (first++[AV.yld H.length]).length:=by simp[hl1]
    rw[this]at e2;exact(h2 _ x v e1 (by simpa using e2)).mono (λ_ _ _ h=>h) g3
  have hcall:=hO.calls _ _ _ _ _ hq C _ w1 _ _ hargs g1 rfl;unfold vB at hcall;rw[hO.enters _ _ _ _ hq hext]at hcall;refine hwide.calls (hcall.mono λe w3 hp=>?_);obtain⟨v,rfl,C3,μ3,p1,p2,p3⟩:=hp;have hle:H.length<(H++[ABlk.loop f (xk (cfg.keepIn f (qm body)) fr) ps.toList assign body none .ready]).length:=by simp
  obtain⟨⟨l',b0,s0,z0,D0⟩,hm3,hbl3,-⟩:=p3.mu H.length (MI.mk4 l 0 0 0) hle (by unfold upd;rw[qGq rfl]);have hbl3:l=l':=(show l'=l from hbl3).symm;subst hbl3;split at he
  case h_2=>cases he
  rename_i lf lfr lps lassign lbody pend st hlq;split at he
  case h_1=>cases he
  rename_i hst;obtain⟨e2,e3,rc,e4,e5,e6,_⟩:=p2.liveM hlq rfl hm3;simp only at e4;have hend:=run_endLoop (P:=cfg.P) e4 (by rw[e5];exact hst);refine⟨rc.pending,_,hend,?_⟩
  -- the world behind it
  have hkill:Wld C3 μ3 (q.2.set H.length .dead) (w3.putObj l (.loop { rc with state:=.exhausted })):=by
   refine(p2.kill H.length (by rw[hlq];simp)).worldG (by simp) (λb hb hor=>?_);refine World.putObj_heap_other λhbl=>?_
   subst hbl;rcases hor with hl'|⟨o,hc'⟩|⟨o,hc'⟩
   ·obtain⟨_,hl''⟩:=hl'.of_kill;exact hl'' _ hm3 (λid' b' m' i1 i2 i3 i4 i5=>i4 (p2.inj _ _ _ _ _ _ i1 hlq i2 rfl i3 hm3 _ i5 (.inl rfl))) rfl
   ·exact hc' (e3 o)
   ·exact hc' ((p2.liveH hlq rfl hm3 _ (.inl rfl)).2.2.1 o)
  have hf3:qy C3 μ3 (xk (cfg.keepOut f (qm body)) fr) a.tmps:=(qas hf).monoG p3.cl (λid m hm=>p3.mu id m (by have:=hw.dom id m hm;simp;omega) (g3 id m hm));obtain⟨μ4,k1,k2,k3⟩:=qqA hkill hf3 k (by simp;have:=p3.len;simp at this;omega);have hx1:Ext H.length C μ H w C3 μ3 q.2 w3:=g2.trans p3 (by simp);have hx:Ext k C μ H w C3 μ4 (gc k (xk (cfg.keepOut f (qm body)) fr) (q.2.set H.length .dead)).2 (w3.putObj l (.loop { rc with state:=.exhausted })):=by
   refine⟨hx1.os,hx1.tape,hx1.output,by have:=hx1.size;simpa using this,hx1.cl,λid m hid hm=>let⟨m1,f1,f2⟩:=hx1.mu id m (by omega) hm;let⟨m2,f3,f4⟩:=k3.mu id m1 hid f1;⟨m2,f3,f2.trans f4⟩,λb hb hnl=>?_,k3.len⟩;obtain⟨f1,f2,f3⟩:=hx1.fr b hb hnl;refine⟨by rw[World.putObj_heap_other (by omega)];exact f1,λhl'=>?_,f3⟩;have hb3:b<(w3.putObj l (.loop { rc with state:=.exhausted })).heap.size:=by have:=hx1.size;simp;omega
   exact(k3.fr b hb3 (λhl''=>f2 hl''.of_kill.1)).2.1 hl'
  have hmarks:qcR B μ4 (gc k (xk (cfg.keepOut f (qm body)) fr) (q.2.set H.length .dead)).2 (w3.putObj l (.loop { rc with state:=.exhausted })) (ms++a.defers):=by
   obtain⟨hb,Ds,d1,d2,d3⟩:=hm.ext hx;have hB:B<=w.heap.size:=hm.1;obtain⟨_,Ds',d1',_,d3'⟩:=hm;have hinj:Ds.map mark=Ds'.map mark:=by rw[←d1,←d1']
   have hDs:Ds=Ds':=by
    have:∀(x y:List Nat),x.map mark=y.map mark->x=y:=by
     intro x
     induction x with
     |nil=>intro y h;cases y with
      |nil=>rfl
      |cons=>simp at h
     |cons a x ih=>
      intro y h;cases y with
      |nil=>simp at h
      |cons b y=>
       simp only[List.map_cons,List.cons.injEq]at h;obtain⟨h1,h2⟩:=h;have:a=b:=by unfold mark at h1;cases h1;rfl
       rw[this,ih y h2]
    exact this _ _ hinj
   rcases hms with rfl|⟨D,rfl,hD1,hD2,hD3⟩
   ·exact⟨hb,Ds,d1,d2,d3⟩
   ·have hDlt:D<w1.heap.size:=(Array.getElem?_eq_some_iff.1 hD3).1;have hDl1:¬Live (H++[ABlk.loop f (xk (cfg.keepIn f (qm body)) fr) ps.toList assign body none .ready]) (upd μ H.length (MI.mk4 l 0 0 0)) D:=by
     intro hl';rcases g4 D hl' with h|h
     ·have:=hw.live_lt h;omega
     ·exact hD2 h
    obtain⟨f1,f2,_⟩:=p3.fr D hDlt hDl1;refine⟨hb,D::Ds,by simp[d1],List.nodup_cons.2 ⟨λhmem=>?_,d2⟩,λD' hD'=>?_⟩
    ·rw[hDs]at hmem;have:=(Array.getElem?_eq_some_iff.1 (d3' D hmem).2.1).1;omega
    ·rcases qF6.1 hD' with rfl|hmem
     ·refine⟨by omega,by rw[World.putObj_heap_other hD2,f1];exact hD3,λhl'=>?_⟩;have hb3:D'<(w3.putObj l (.loop { rc with state:=.exhausted })).heap.size:=by have:=p3.size;simp;omega
      exact(k3.fr D' hb3 (λhl''=>f2 hl''.of_kill.1)).2.1 hl'
     ·exact d3 D' hmem
  have fin:∀e,r=(e,gc k (xk (cfg.keepOut f (qm body)) fr) (q.2.set H.length .dead))->qaQ k B C μ H w r e.to { a with defers:=ms++a.defers } (w3.putObj l (.loop { rc with state:=.exhausted })):=by
   intro e hr;subst hr;exact⟨rfl,C3,μ4,k2,k1,hx,hmarks⟩
  rw[e6]at fin⊢;split at he
  ·cases he;exact fin .normal rfl
  ·cases he;exact wpIn_ret (fin .ret rfl)
  ·rename_i x;cases he;exact wpIn_exit (fin (.exit x) rfl)
  ·cases he
 have hres:∀l w,(resolve a.eval (rangeCall g l) 0).run cfg.P w= .ok { target:=.fn (.func h) vc.toArray,args:=vf.toArray++ #[.func (.yield l) #[] #[]] } w:=by
  intro l w;rw[qgf (f:=g) rfl,hgv];simp[Deferred.ofValue,Act.eval]
 have hinv:∀l w,(invoke (.fn (.func h) vc.toArray) (vf.toArray++ #[.func (.yield l) #[] #[]])).run cfg.P w= .ok (.enter h (vf.toArray++ #[.func (.yield l) #[] #[]]++vc.toArray)) w:=by
  intro l w;rw[invoke];exact hO.enters _ _ _ _ hq hext _ w
 have hdep:F.depth.isSome=true->1<=0:=λhh=>by rw[hwide.depth]at hh;simp at hh
 cases rd with
 |none=>
  have hFw:F=Fence.wide:=hrd;have hro:F.round=none:=by rw[hFw];rfl
  rw[hro];refine⟨w.heap.size+1,[mark w.heap.size],_,_,_,h,_,_,run_enterLoop_outer fn a.tmps ps assign body,hres _ _,λf' _=>hwide.fn f',hinv _ _,hdep,?_⟩;refine core (w.heap.size+1) [mark w.heap.size] _ w.heap.size (by simp;omega) (λb hb=>?_) (by omega) ?_ rfl rfl rfl (.inr ⟨w.heap.size,rfl,qFH _,by omega,?_⟩)
  ·show((w.heap.push _).push _)[b]? =_;rw[Array.getElem?_push,qGr (by simp;omega),Array.getElem?_push,qGr (by omega)]
  ·show((w.heap.push _).push _)[w.heap.size+1]? =_;rw[Array.getElem?_push,qGq (by simp)]
  ·show((w.heap.push _).push _)[w.heap.size]? =_;rw[Array.getElem?_push,qGr (by simp),Array.getElem?_push,qGq rfl]
 |some l0=>
  obtain⟨hl0,m0,hm0,hFr⟩:=hrd;have hro:F.round=some m0.block:=by rw[hFr];rfl
  rw[hro];unfold qpQ at hrl;simp only at hrl;split at hrl
  case h_2=>cases hrl
  rename_i hb0;obtain⟨i2,i3,r0,i4,_⟩:=hw.liveM hb0 rfl hm0;refine⟨w.heap.size,[],_,_,_,h,_,_,run_enterLoop_inner i4 fn a.tmps ps assign body,hres _ _,λf' _=>hwide.fn f',hinv _ _,hdep,?_⟩;refine core w.heap.size [] _ r0.defers (by simp) (λb hb=>?_) (qFH _) ?_ rfl rfl rfl (.inl rfl)
  ·show(w.heap.push _)[b]? =_;rw[Array.getElem?_push,qGr (by omega)]
  ·show(w.heap.push _)[w.heap.size]? =_;rw[Array.getElem?_push,qGq rfl]
variable {C C' C1 C2 : qk} {μ μ' μ1 : MMap} {H H' H1 H2 : AH} {w w' w1 : World} {P : Program}
theorem qb9{D:List Nat}{i:Nat}{o:Oper}:∀(l:List Oper) (k:Nat),(i,o)∈yz D k l↔k<=i∧l[i - k]? =some o∧D.any (qFY i)=false∧rdyB D o=true
 |[],k=>by simp[yz]
 |o'::l,k=>by
  have ih:=qb9 (D:=D) (i:=i) (o:=o) l (k+1);rw[yz]
  by_cases e:i=k
  ·subst e;have hno:¬(i,o)∈yz D (i+1) l:=λh=>by have:=(ih.1 h).1;omega
   split
   ·rename_i h;simp only[qFJ,Bool.not_eq_true']at h;simp only[qF6,Prod.mk.injEq,true_and,hno,or_false,qFH,Nat.sub_self,List.getElem?_cons_zero,Option.some.injEq];constructor
    ·intro e;subst e;exact⟨rfl,h.1,h.2⟩
    ·intro e;exact e.1.symm
   ·rename_i h;simp only[qFJ,Bool.not_eq_true']at h;simp only[hno,false_iff,qFH,Nat.sub_self,List.getElem?_cons_zero,Option.some.injEq,true_and];intro e;obtain⟨rfl,e2⟩:=e;exact h e2
  ·have hs:∀(x:Oper),(k<=i∧(x::l)[i - k]? =some o∧D.any (qFY i)=false∧rdyB D o=true)↔(k+1<=i∧l[i - (k+1)]? =some o∧D.any (qFY i)=false∧rdyB D o=true):=by
    intro x;constructor
    ·rintro⟨h1,h2,h3⟩;have:i - k=(i - (k+1))+1:=by omega
     rw[this,List.getElem?_cons_succ]at h2;exact⟨by omega,h2,h3⟩
    ·rintro⟨h1,h2,h3⟩;have:i - k=(i - (k+1))+1:=by omega
     rw[this,List.getElem?_cons_succ];exact⟨by omega,h2,h3⟩
   rw[hs o',←ih];split
   ·simp only[qF6,Prod.mk.injEq,e,false_and,false_or]
   ·rfl
theorem qeh{ops:Array Oper}{listed:Array Bool}{D:List Nat}(hs:listed.size=ops.size)(hD:∀j,listed.getD j false=D.any (qFY j))(i:Nat):i∈Region.ready .any ops listed↔∃o,(i,o)∈yz D 0 ops.toList:=by
 rw[mem_ready];constructor
 ·rintro⟨h1,o,h2,h3⟩;have hlt:i<ops.size:=(Array.getElem?_eq_some_iff.1 h2).1;refine⟨o,(qb9 _ _).2 ⟨Nat.zero_le _,by rw[Nat.sub_zero,Array.getElem?_toList];exact h2,?_,?_⟩⟩
  ·rw[←hD,←qcZ (by omega)];exact h1
  ·unfold rdyB;rw[List.all_eq_true];intro e he;cases hb:Region.binds .any e with
   |false=>simp
   |true=>rw[←hD,h3 e (Array.mem_toList_iff.1 he) hb];rfl
 ·rintro⟨o,h⟩;obtain⟨_,h2,h3,h4⟩:=(qb9 _ _).1 h;rw[Nat.sub_zero,Array.getElem?_toList]at h2;have hlt:i<ops.size:=(Array.getElem?_eq_some_iff.1 h2).1;refine⟨by rw[qcZ (by omega),hD];exact h3,o,h2,λe he hb=>?_⟩;unfold rdyB at h4;have:=List.all_eq_true.1 h4 e (Array.mem_toList_iff.2 he);rw[hb]at this;rw[hD]
  simpa using this
theorem qmq{F:Nat->List AV->AH->Option (List (List AV×AH))}{G:Nat->Oper->Option (List AV×AH)}:∀{l:List (Nat×Oper)} {L:List (List AV×AH)},qbt F G l=some L->∀p∈l,∃q L1,G p.1 p.2=some q∧F p.1 q.1 q.2=some L1∧∀x∈L1,x∈L
 |[],_,_,p,hp=>by cases hp
 |x::l,L,h,p,hp=>by
  rw[qbt]at h;obtain⟨q,h1,h⟩:=qFL.1 h;obtain⟨L1,h2,h⟩:=qFL.1 h;obtain⟨L2,h3,e⟩:=qFM.1 h;subst e;rcases qF6.1 hp with rfl|hp
  ·exact⟨q,L1,h1,h2,λx hx=>List.mem_append_left _ hx⟩
  ·obtain⟨q',L1',g1,g2,g3⟩:=qmq h3 p hp;exact⟨q',L1',g1,g2,λx hx=>List.mem_append_right _ (g3 x hx)⟩
theorem qxl[Lent]{cfg:Cfg}(hc:CfgTy cfg){cf:Orac}(hO:qaj cfg cf){Fn:Fence}(hF:zJ Fn){f rid:Nat}{ops:Array Oper}{Q:Exit->Act->World->Prop}{C0:qk}{μ0:MMap}{H0:AH}{w0:World}{k:Nat}{ds:List Deferred}:
  ∀(n:Nat) (D:List Nat) (listed:Array Bool) {fr:List AV} {H:AH} {L:List (List AV×AH)} {C:qk} {μ:MMap} {w:World} {a:Act},qaA cfg cf f rid ops n D fr H=some L->listed.size=ops.size->(∀j,listed.getD j false=D.any (qFY j)) ->
   qy C μ fr a.tmps->Wld C μ H w->Ext k C0 μ0 H0 w0 C μ H w->a.defers=ds ->
   (∀q∈L,∀C μ w a,qy C μ q.1 a.tmps->Wld C μ q.2 w->Ext k C0 μ0 H0 w0 C μ q.2 w->a.defers=ds->Q .normal a w)->wpAnyIn Fn 0 cfg.P .any ops Q n listed a w:=by
 have hnil:∀{D:List Nat} {listed:Array Bool},listed.size=ops.size->(∀j,listed.getD j false=D.any (qFY j))->((yz D 0 ops.toList).isEmpty=true↔Region.ready .any ops listed=[]):=by
  intro D listed hs hD;constructor
  ·intro h;rw[List.isEmpty_iff]at h;refine List.eq_nil_iff_forall_not_mem.2 λi hi=>?_
   obtain⟨o,ho⟩:=(qeh hs hD i).1 hi;rw[h]at ho;cases ho
  ·intro h;rw[List.isEmpty_iff];refine List.eq_nil_iff_forall_not_mem.2 λp hp=>?_
   have:=(qeh hs hD p.1).2 ⟨p.2,hp⟩;rw[h]at this;cases this
 intro n
 induction n with
 |zero=>
  intro D listed fr H L C μ w a he hs hD hf hw hx hds hL;rw[qaA]at he;split at he
  ·rename_i h;cases he;exact⟨(hnil hs hD).1 h,hL _ (List.mem_singleton.2 rfl) C μ w a hf hw hx hds⟩
  ·cases he
 |succ n ih=>
  intro D listed fr H L C μ w a he hs hD hf hw hx hds hL;rw[qaA]at he;split at he
  ·rename_i h;cases he;have hr:=(hnil hs hD).1 h;exact⟨λ_=>hL _ (List.mem_singleton.2 rfl) C μ w a hf hw hx hds,λi hi=>by rw[hr]at hi;cases hi⟩
  ·rename_i h;refine⟨λhr=>absurd ((hnil hs hD).2 hr) h,λi hi=>?_⟩;obtain⟨o,ho⟩:=(qeh hs hD i).1 hi;obtain⟨q,L1,g1,g2,g3⟩:=qmq he _ ho;obtain⟨_,h2,_,_⟩:=(qb9 _ _).1 ho;rw[Nat.sub_zero,Array.getElem?_toList]at h2;have hlt:i<ops.size:=(Array.getElem?_eq_some_iff.1 h2).1;have hD':∀j,(listed.setIfInBounds i true).getD j false=(i::D).any (qFY j):=by
    intro j;have:=congrFun (qqy listed (i:=i) (by omega)) j;rw[this]
    by_cases e:j=i
    ·subst e;rw[qd6];simp
    ·rw[qc1 e,hD];have:qFY j i=false:=by rw[←Bool.not_eq_true];intro h';exact e (qFO h')
     simp[this]
   simp only at g1 g2;unfold qcn at g1;obtain⟨b,hb,g1⟩:=qFL.1 g1;have hwan:=qda hf hb;unfold wpOpIn;simp only[h2];cases b with
   |true=>
    rw[qGq hwan];simp only[if_true]at g1;obtain⟨r,e1,e⟩:=qFM.1 g1;subst e;refine qhv hF ((qdw hc hO (qbI hf) hw e1).mono λv w1 ⟨C1,μ1,p1,p2,p3⟩=>?_);have hf1:qy C1 μ1 fr a.tmps:=hf.monoG p3.cl (λid m hm=>p3.mu id m (hw.dom id m hm) hm);exact ih (i::D) _ g2 (by simpa using hs) hD' (qbG hf1 p1) p2 (hx.trans p3 hx.len) (by rw[qaq];exact hds) λq hq=>hL q (g3 q hq)
   |false=>
    rw[qGr (by rw[hwan];simp)];simp only[qF5,if_false]at g1;cases g1;exact⟨λf _=>hF.fn f,ih (i::D) _ g2 (by simpa using hs) hD' (qbG hf qhn) hw hx (by rw[qaq];exact hds) λq hq=>hL q (g3 q hq)⟩
theorem qvc[Lent]{cfg:Cfg}(hc:CfgTy cfg){cf:Orac}(hO:qaj cfg cf)(hm:cfg.P.follows .mixedOrders=true){Fn:Fence}(hF:zJ Fn){f rid:Nat}{ops:Array Oper}{fr:List AV}{L:List (List AV×AH)}{a:Act}(he:qaA cfg cf f rid ops ops.size [] fr H=some L)(hf:qy C μ fr a.tmps)(hw:Wld C μ H w){Q:Exit->Act->World->Prop}(hq:∀q∈L,∀C' μ' w' a',qy C' μ' q.1 a'.tmps->Wld C' μ' q.2 w'->Ext H.length C μ H w C' μ' q.2 w'->a'.defers=a.defers->Q .normal a' w'):(Code.region rid ops true).wpIn Fn 0 cfg.P Q a w:=by
 refine wpIn_region_any hm ?_;refine qxl hc hO hF (C0:=C) (μ0:=μ) (H0:=H) (w0:=w) (k:=H.length) (ds:=a.defers) ops.size [] _ he (by simp) (λj=>?_) hf (hw.heap rfl) ?_ rfl hq
 ·rw[Array.getD_eq_getD_getElem?];rcases Nat.lt_or_ge j ops.size with h|h
  ·simp[h]
  ·simp[h]
 ·exact⟨rfl,rfl,rfl,qFH _,λ_ _ _ h=>h,λ_ _ _ h=>⟨_,h,.refl _⟩,λb _ hnl=>⟨rfl,λhl=>hnl hl,rfl⟩,qFH _⟩
theorem qmf[Lent]{tmps:Array Value}:∀(ts:List Tmp) {fr:List AV},qy C μ fr tmps->qy C μ (qmg ts fr) tmps
 |[],_,h=>h
 |t::ts,fr,h=>by
  have:qmg (t::ts) fr=qmg ts (fr.set t .junk):=rfl;rw[this];exact qmf ts (h.setA λv _=>.junk v)
theorem qsA{c:Code}{p:Nat×Array Oper}(h:qhZ c=some p):c= .region p.1 p.2 true∧qnx p.2=true:=by
 unfold qhZ at h;split at h
 ·split at h
  ·rename_i h1;cases h;exact⟨rfl,h1⟩
  ·cases h
 ·cases h
theorem qhX[Lent]{cfg:Cfg}(hc:CfgTy cfg){cf:Orac}(hO:OracOk2 cfg cf)(hmx:cfg.P.follows .mixedOrders=true){F:Fence}{rd:Option Nat}{f B k:Nat}:∀(c:Code) {fr:List AV} {H:AH} {r:Ex×List AV×AH},evC cfg cf f rd k c fr H=some r ->
  ∀{C:qk} {μ:MMap} {w:World} {a:Act},k<=H.length->RdOk rd F μ k->qy C μ fr a.tmps->Wld C μ H w->qcR B μ H w a.defers->c.wpIn F 0 cfg.P (qaQ k B C μ H w r) a w:=by
 intro c
 induction c with
 |skip=>
  intro fr H r he C μ w a hk hrd hf hw hm;rw[evC.eq_def]at he;simp only at he;cases he;exact wpIn_skip ⟨rfl,C,μ,hf,hw,Ext.refl hk,hm⟩
 |label l=>
  intro fr H r he C μ w a hk hrd hf hw hm;rw[evC.eq_def]at he;simp only at he;cases he;exact wpIn_label ⟨rfl,C,μ,hf,hw,Ext.refl hk,hm⟩
 |exit id=>
  intro fr H r he C μ w a hk hrd hf hw hm;rw[evC.eq_def]at he;simp only at he;cases he;exact wpIn_exit ⟨rfl,C,μ,hf,hw,Ext.refl hk,hm⟩
 |ret=>
  intro fr H r he C μ w a hk hrd hf hw hm;rw[evC.eq_def]at he;simp only at he;cases he;exact wpIn_ret ⟨rfl,C,μ,hf,hw,Ext.refl hk,hm⟩
 |goto l=>
  intro fr H r he;rw[evC.eq_def]at he;simp only at he;cases he
 |refuse s=>
  intro fr H r he;rw[evC.eq_def]at he;simp only at he;cases he
 |region id ops draw=>
  intro fr H r he C μ w a hk hrd hf hw hm;rw[evC.eq_def]at he;simp only at he;have fin:∀(fr':List AV) (H':AH) C' μ' w' (a':Act),qy C' μ' fr' a'.tmps->Wld C' μ' H' w'->Ext H.length C μ H w C' μ' H' w'->a'.defers=a.defers->qaQ k B C μ H w (.normal,fr',H') .normal a' w':=
   λfr' H' C' μ' w' a' g1 g2 g3 g4=>⟨rfl,C',μ',g1,g2,g3.less hk,by rw[g4];exact hm.ext g3⟩
  cases draw with
  |true=>
   simp only[if_true]at he;split at he
   case isFalse=>cases he
   rename_i hst;obtain⟨q,hq,he⟩:=qFL.1 he;split at he
   case isFalse=>cases he
   rename_i hdy;obtain⟨fps,fr',H'⟩:=q;cases he;exact qu6 hc hO.calls hmx hrd.wide hst hq hdy hf hw (fin fr' H')
  |false=>
   simp only[qF5,if_false]at he;obtain⟨q,hq,e⟩:=qFM.1 he;obtain⟨fr',H'⟩:=q;cases e;refine wpIn_region ?_;have:=qer hc hO.calls hrd.wide (Q:=qaQ k B C μ H w (.normal,fr',H')) ops.toList 0 hq (λi=>by rw[Array.getElem?_toList,qGi]) hf hw (fin fr' H');rw[List.range_eq_range']
   simpa using this
 |seq x y ihx ihy=>
  intro fr H r he C μ w a hk hrd hf hw hm;rw[evC.eq_def]at he;simp only at he;split at he
  case h_1 p hp=>
   obtain⟨rfl,_⟩:=qsA hp;obtain⟨L,hL,he⟩:=qFL.1 he;refine wpIn_seq (qvc hc hO.calls hmx hrd.wide hL hf hw λq hq C1 μ1 w1 a1 g1 g2 g3 g4=>?_);obtain⟨q2,hq2,e⟩:=qFM.1 (qrB he q hq);subst e;have h4:=g3.less hk;refine wpIn_mono (ihy hq2 h4.len (hrd.ext h4.mu (qFH _)) (qas g1) g2 (by rw[g4];exact hm.ext g3)) λe' a2 w2 hp2=>?_
   obtain⟨p1,C2,μ2,p2,p3,p4,p5⟩:=qaQ.mono hp2 h4 (qFH _);obtain⟨μ3,r1,r2,r3⟩:=qqA p3 (qmf (dsts (.region p.1 p.2 true)++dsts y) p2) k p4.len;exact⟨p1,C2,μ3,r2,r1,p4.trans r3 (qFH _),p5.ext r3⟩
  obtain⟨q,hq,he⟩:=qFL.1 he;refine wpIn_seq (wpIn_mono (ihx hq hk hrd hf hw hm) λe a1 w1 hp=>?_);cases hq1:q.1 with
  |normal=>
   obtain⟨h1,C1,μ1,h2,h3,h4,h5⟩:=hp;rw[hq1]at h1 he;subst h1;refine wpIn_mono (ihy he h4.len (hrd.ext h4.mu (qFH _)) (qas h2) h3 h5) λe' a2 w2 hp2=>hp2.mono h4 (qFH _)
  |exit id=>
   rw[hq1]at he;cases he;have:e= .exit id:=by rw[hp.1,hq1];rfl
   subst this;exact⟨rfl,hp.2⟩
  |goto l=>
   rw[hq1]at he;cases he;have:e= .goto l:=by rw[hp.1,hq1];rfl
   subst this;exact⟨rfl,hp.2⟩
  |ret=>
   rw[hq1]at he;cases he;have:e= .ret:=by rw[hp.1,hq1];rfl
   subst this;exact⟨rfl,hp.2⟩
 |cond c x y ihx ihy=>
  intro fr H r he C μ w a hk hrd hf hw hm;rw[evC.eq_def]at he;simp only at he;split at he
  case h_2=>cases he
  rename_i t ht;have hcr:=qbI hf c;rw[ht]at hcr;generalize hv:a.eval c=v at hcr;cases hcr;cases t with
  |true=>exact wpIn_cond_true hv (ihx (by simpa using he) hk hrd hf hw hm)
  |false=>exact wpIn_cond_false hv (ihy (by simpa using he) hk hrd hf hw hm)
 |block id x ih=>
  intro fr H r he C μ w a hk hrd hf hw hm;rw[evC.eq_def]at he;simp only at he;obtain⟨q,hq,he⟩:=qFL.1 he;refine wpIn_block (wpIn_mono (ih hq hk hrd hf hw hm) λe a1 w1 hp=>?_);cases hq1:q.1 with
  |normal=>
   rw[hq1]at he;cases he;have:e= .normal:=by rw[hp.1,hq1];rfl
   subst this;exact hp
  |exit id'=>
   rw[hq1]at he;simp only at he;have:e= .exit id':=by rw[hp.1,hq1];rfl
   subst this;simp only[Exit.inBlock]
   by_cases e:id'=id
   ·subst e;rw[qGq (qF3 _)]at he;cases he;rw[qGq rfl];exact⟨rfl,hp.2⟩
   ·have:¬qFY id' id=true:=λh=>e (qFO h)
    rw[qGr this]at he;cases he;rw[qGr e];exact hp
  |goto l=>
   rw[hq1]at he;cases he;have:e= .goto l:=by rw[hp.1,hq1];rfl
   subst this;exact hp
  |ret=>
   rw[hq1]at he;cases he;have:e= .ret:=by rw[hp.1,hq1];rfl
   subst this;exact hp
 |loop x ih=>
  intro fr H r he C μ w a hk hrd hf hw hm;rw[evC.eq_def]at he;simp only at he;obtain⟨q,hq,e⟩:=qFM.1 he;obtain⟨n,hn⟩:=qbN hq;obtain⟨μ',g1,g2,g3⟩:=qqw hw hf (cfg.keepIn f (qm x)) (cfg.lift f (qm x)) k hk;refine wpIn_mono (wpIn_loop_rounds n (qj5 (rd:=rd) (λhq=>ih hq) hk n hn g3.len (hrd.ext g3.mu (qFH _)) g2 g1 (hm.ext g3) g3)) λe' a' w' hp=>?_
  obtain⟨h1,C1,μ1,h2,h3,h4,h5⟩:=hp;subst e;exact⟨h1,C1,μ1,qas h2,h3,h4,h5⟩
 |scope x ih=>
  intro fr H r he C μ w a hk hrd hf hw hm;rw[evC.eq_def]at he;simp only at he;obtain⟨q,hq,he⟩:=qFL.1 he;have hqr:(∀l,q.1≠.goto l)∧q=r:=by
   cases hq1:q.1 with
   |goto l=>rw[hq1]at he;cases he
   |normal=>rw[hq1]at he;simp only[Option.some.injEq]at he;exact⟨nofun,he⟩
   |exit id=>rw[hq1]at he;simp only[Option.some.injEq]at he;exact⟨nofun,he⟩
   |ret=>rw[hq1]at he;simp only[Option.some.injEq]at he;exact⟨nofun,he⟩
  obtain⟨h1,rfl⟩:=hqr;refine qrk (ih hq hk hrd hf hw hm) λl a1 w1 hp=>?_
  have:=hp.1;cases hq1:q.1 with
  |goto l=>exact h1 l hq1
  |_=>rw[hq1]at this;cases this
 |rangeFunc g ps assign body=>
  intro fr H r he C μ w a hk hrd hf hw hm;rw[evC.eq_def]at he;simp only at he;obtain⟨a1,a2,a3,a4⟩:=qcI (cfg.lift f (qm body)) hw hf;exact wpIn_mono (qlu hO he (Nat.le_trans hk a3) hrd a2 a1 (hm.ext (a4 k hk))) λe a' w' hp=>hp.mono (a4 k hk) (qFH _)
def qeR(tmps:Array Value):ResultVar->Sem Value
 | .tmp t=>pure (tmps.getD t undef)
 | .cell a t=>do loadVar t (←asAddr (tmps.getD a undef))
theorem qcx[Lent]{cfg:Cfg}(hc:CfgTy cfg){fr:List AV}{tmps:Array Value}(hf:qy C μ fr tmps)(hw:Wld C μ H w):∀(rs:List ResultVar) {vs:List AV},yR rs cfg.ty fr H=some vs ->
  ∃us:List Value,(rs.mapM (qeR tmps)).run cfg.P w= .ok us w∧vs.length=us.length ∧
   ∀(i:Nat) a v,vs[i]? =some a->us[i]? =some v->Rep C μ a v
 |[],vs,he=>by
  simp only[yR]at he;cases he;exact⟨[],by simp,rfl,λi a v h=>by simp at h⟩
 | .tmp t::l,vs,he=>by
  simp only[yR]at he;obtain⟨vs',hvs,e⟩:=qFM.1 he;cases e;obtain⟨us,h1,h2,h3⟩:=qcx hc hf hw l hvs;refine⟨tmps.getD t undef::us,?_,by simp[h2],λi a v e1 e2=>?_⟩
  ·simp only[List.mapM_cons,Sem.run_bind,qeR,Sem.run_pure,Result.andThen_ok,h1]
  ·cases i with
   |zero=>simp at e1 e2;subst e1;subst e2;simpa [opd,Act.eval]using qbI (a:=⟨tmps,[]⟩) hf (.tmp t)
   |succ i=>exact h3 i a v (by simpa using e1) (by simpa using e2)
 | .cell a t::l,vs,he=>by
  simp only[yR]at he;split at he
  case h_2=>cases he
  rename_i ti hti;obtain⟨x,hx,he⟩:=qFL.1 he;obtain⟨vs',hvs,e⟩:=qFM.1 he;cases e;obtain⟨us,h1,h2,h3⟩:=qcx hc hf hw l hvs;have hr:Rep C μ (fr.getD a .junk) (tmps.getD a undef):=by simpa [opd,Act.eval]using qbI (a:=⟨tmps,[]⟩) hf (.tmp a)
  obtain⟨ad,u,g1,g2,g3⟩:=qlP hw (hc.ty _ _ hti) hr hx;refine⟨u::us,?_,by simp[h2],λi a v e1 e2=>?_⟩
  ·have ga:(qeR tmps (.cell a t)).run cfg.P w= .ok u w:=by simp only[qeR,g1,asAddr,Sem.run_bind,Sem.run_pure,Result.andThen_ok,g2]
   simp only[List.mapM_cons,Sem.run_bind,ga,Sem.run_pure,Result.andThen_ok,h1]
  ·cases i with
   |zero=>simp at e1 e2;subst e1;subst e2;exact g3
   |succ i=>exact h3 i a v (by simpa using e1) (by simpa using e2)
theorem qoz[Lent]{cfg:Cfg}(hc:CfgTy cfg){fn:Func}{fr:List AV}{tmps:Array Value}(hf:qy C μ fr tmps)(hw:Wld C μ H w){vs:List AV}(he:yR fn.results.toList cfg.ty fr H=some vs):
  ∃v,(results fn tmps).run cfg.P w= .ok v w∧Rep C μ (qap vs) v:=by
 obtain⟨us,h1,h2,h3⟩:=qcx hc hf hw _ he;refine⟨if h:us.toArray.size=1 then us.toArray[0]else .tuple us.toArray,?_,?_⟩
 ·have hr:results fn tmps=(fn.results.mapM (qeR tmps) >>= λvs=>pure (if h:vs.size=1 then vs[0]else .tuple vs)):=rfl;rw[hr,Array.mapM_eq_mapM_toList];simp only[Sem.run_bind,Sem.run_map,Result.andThen_ok,Sem.run_pure,h1]
 ·cases us with
  |nil=>
   cases vs with
   |nil=>exact .tup [] [] rfl (λi a v h=>by simp at h)
   |cons x l=>simp at h2
  |cons u us=>
   cases vs with
   |nil=>simp at h2
   |cons x l=>
    cases us with
    |nil=>
     cases l with
     |nil=>simpa [qap]using h3 0 x u rfl rfl
     |cons y l=>simp at h2
    |cons u' us=>
     cases l with
     |nil=>simp at h2
     |cons y l=>
      have:qap (x::y::l)= .tup (x::y::l):=rfl;rw[this,dif_neg (by simp)];exact .tup _ _ h2 h3
theorem qsw{cfg:Cfg}{rs:List ResultVar}{q:Ex×List AV×AH}{r:AV}(h:qeZ cfg rs q=some (r,H')):(q.1= .normal∨q.1= .ret)∧H'=q.2.2∧∃vs,yR rs cfg.ty q.2.1 q.2.2=some vs∧r=qap vs:=by
 unfold qeZ at h;split at h
 ·rename_i hq;obtain⟨vs,h1,e⟩:=qFM.1 h;cases e;exact⟨.inl hq,rfl,vs,h1,rfl⟩
 ·rename_i hq;obtain⟨vs,h1,e⟩:=qFM.1 h;cases e;exact⟨.inr hq,rfl,vs,h1,rfl⟩
 ·cases h
theorem qhC[Lent]{fn:Func}{tmps:Array Value}{R:Ending->World->Prop}{B k:Nat}{C0:qk}{μ0:MMap}{H0:AH}{w0:World}(hB:B=w0.heap.size)(hend:∀w',Wld C μ H w'->Ext k C0 μ0 H0 w0 C μ H w'->∃v,(results fn tmps).run P w'= .ok v w'∧R (.returned v) w'):∀(Ds:List Nat) {w:World},Ds.Nodup->(∀D∈Ds,B<=D∧w.heap[D]? =some (.deferred (some []))∧¬Live H μ D) ->
   Wld C μ H w->Ext k C0 μ0 H0 w0 C μ H w->LeavesInM Fence.wide 0 P fn tmps R (Ds.map mark) .returning w
 |[],w,_,_,hw,hx=>hend w hw hx
 |D::Ds,w,hnd,hD,hw,hx=>by
  obtain⟨d1,d2,d3⟩:=hD D (List.mem_cons_self ..);obtain⟨hnm,hnd'⟩:=List.nodup_cons.1 hnd;refine⟨by simp,.inl ⟨D,_,rfl,run_takeDeferred d2,?_⟩⟩;have hne:∀b,b≠D->(w.putObj D (.deferred none)).heap[b]? =w.heap[b]? :=λb hb=>World.putObj_heap_other hb
  refine qhC hB hend Ds hnd' (λD' hD'=>?_) (hw.worldG (by simp) (λb hb hor=>hne b λe=>?_)) ⟨hx.os,hx.tape,hx.output,by simpa using hx.size,hx.cl,hx.mu,λb hb hnl=>?_,hx.len⟩
  ·obtain⟨g1,g2,g3⟩:=hD D' (List.mem_cons_of_mem _ hD');exact⟨g1,by rw[hne D' (λe=>hnm (by rw[←e];exact hD'))];exact g2,g3⟩
  ·subst e;rcases hor with hl|⟨o,hc⟩|⟨o,hc⟩
   ·exact d3 hl
   ·cases hco:C b o with
    |none=>exact hc hco
    |some v=>
     have:=hw.cl b o v hco;simp only[World.cell?,d2]at this;cases this
   ·cases hco:Lent.l b o with
    |none=>exact hc hco
    |some v=>
     have:=(hw.lnt.1 b o v hco).1;simp only[World.cell?,d2]at this;cases this
  ·obtain⟨f1,f2,f3⟩:=hx.fr b hb hnl;exact⟨by rw[hne b (by omega)];exact f1,f2,f3⟩
variable {C C' C1 C2 : qk} {μ μ' μ1 : MMap} {H H' H1 H2 : AH} {w w' w1 : World} {P : Program}
structure CfgOk [Lent] (cfg:Cfg):Prop where
 ty:CfgTy cfg
 mixed:cfg.P.follows .mixedOrders=true
 named:∀f fn,cfg.known f=true→cfg.P.funcs[f]? =some fn→(fn.name== "runtime.NumGoroutine")=false
 ext:∀f s,cfg.ext f=some s→∀args H r H',s args H=some (r,H')→∀C μ w vs,qy C μ args vs→Wld C μ H w→vB cfg.P (callFunc f vs) w (vY C μ H w r H')
theorem qtL {f:FuncId} {fn:Func} {c:Code} (hf:P.funcs[f]? =some fn) (hn:(fn.name== "runtime.NumGoroutine")=false) (hb:fn.body=some c) (vs:Array Value) (w:World):(callFunc f vs).run P w= .ok (.enter f vs) w:=by
 unfold callFunc;simp only[Sem.run_bind,run_program,Result.andThen_ok,hf,hn,hb,Option.isNone_some,qF5,if_false];simp
theorem qAH[Lent]{args:List AV}{vs:Array Value}(h:qy C μ args vs)(n:Nat):qy C μ (args++qGd (n - args.length) .junk) (vs++Array.replicate (n - vs.size) undef):=by
 refine⟨by simp[h.1],λi a v e1 e2=>?_⟩;rcases Nat.lt_or_ge i args.length with hlt|hge
 ·rw[qFX hlt]at e1;rw[Array.getElem?_append_left (by rw[←h.1];exact hlt)]at e2;exact h.2 i a v e1 e2
 ·rw[qF0 hge]at e1;have:=qFK e1;rw[List.mem_replicate]at this;rw[this.2];exact .junk v
theorem qge[Lent]:∀(ps:List Tmp) {args:List AV} {vs:List Value} {fr:List AV} {tmps:Array Value},(∀(i:Nat) a v,args[i]? =some a->vs[i]? =some v->Rep C μ a v)->args.length=vs.length->qy C μ fr tmps ->
  qy C μ (zu fr ps args) ((ps.zip vs).foldl (λt (p,v)=>t.setIfInBounds p v) tmps)
 |[],args,vs,fr,tmps,_,_,hf=>by cases args<;>simpa [zu]using hf
 |p::ps,[],vs,fr,tmps,_,hl,hf=>by
  have:vs=[]:=qFZ (by simpa using hl.symm);subst this
  simpa [zu]using hf
 |p::ps,x::args,[],fr,tmps,_,hl,hf=>by simp at hl
 |p::ps,x::args,v::vs,fr,tmps,h,hl,hf=>by
  rw[zu,List.zip_cons_cons,List.foldl_cons];refine qge ps (λi a u e1 e2=>h (i+1) a u (by simpa using e1) (by simpa using e2)) (by simpa using hl) ?_;exact qbG (a:=⟨tmps,[]⟩) (dst:=some p) hf (h 0 x v rfl rfl)
theorem qwV[Lent]{cfg:Cfg}(ok:CfgOk cfg){cf:Orac}(hO:OracOk2 cfg cf){f:Nat}{fn:Func}{c:Code}{args:List AV}{vs:Array Value}{r:AV}(hf:cfg.P.funcs[f]? =some fn)(hb:fn.body=some c)(he:((evC cfg cf f none H.length c (args++qGd (fn.ntmps - args.length) .junk) H).bind λr=>qeZ cfg fn.results.toList (r.1,xf (cfg.lift f 0) r.2.1 r.2.2))=some (r,H'))(ha:qy C μ args vs)(hw:Wld C μ H w):
  CallsIn Fence.wide 0 cfg.P f vs w λe w'=>∃v,e= .returned v∧vY C μ H w r H' v w':=by
 obtain⟨q,hq,he⟩:=qFL.1 he;obtain⟨h1,rfl,us,h3,rfl⟩:=qsw he;refine callsIn_of_wp_marks hf hb trivial (wpIn_mono (qhX ok.ty hO ok.mixed (B:=w.heap.size) c hq (F:=Fence.wide) (qFH _) rfl (qAH ha fn.ntmps) hw ⟨qFH _,[],rfl,List.nodup_nil,λD h=>by cases h⟩) λe a' w' hp=>?_);obtain⟨e1,C',μ',e2,e3,e4,hmk⟩:=hp;obtain⟨l1,l2,l3,l4⟩:=qcI (cfg.lift f 0) e3 e2
 obtain⟨hB,Ds,m1,m2,m3⟩:=hmk.ext (l4 _ (qFH _));replace e2:=l2;replace e4:=e4.trans (l4 _ e4.len) (qFH _);replace e3:=l1;have hl:LeavesInM Fence.wide 0 cfg.P fn a'.tmps (λe w'=>∃v,e= .returned v∧vY C μ H w (qap us) (xf (cfg.lift f 0) q.2.1 q.2.2).2 v w') a'.defers .returning w':=by
  rw[m1];refine qhC rfl (λw2 g1 g2=>?_) Ds m2 m3 e3 e4;obtain⟨v,r1,r2⟩:=qoz ok.ty e2 g1 h3;exact⟨v,r1,v,rfl,C',μ',r2,g1,g2⟩
 rcases h1 with h1|h1
 ·rw[h1]at e1;subst e1;exact hl
 ·rw[h1]at e1;subst e1;exact hl
theorem qrD[Lent]{cfg:Cfg}(ok:CfgOk cfg){cf:Orac}(hO:OracOk2 cfg cf){id:Nat}{args:List AV}{vs:Array Value}{r:AV}(he:vR cfg cf (.y id) args H=some (r,H'))(ha:qy C μ args vs)(hw:Wld C μ H w){m:MI}(hm:μ id=some m):
  vB cfg.P (Instr.yield m.block vs) w (vY C μ H w r H'):=by
 unfold vR at he;simp only at he;split at he
 case h_2=>cases he
 rename_i f fr ps assign body pend hid;split at he
 case isFalse=>cases he
 rename_i hlen;obtain⟨q1,hq1,he⟩:=qFL.1 he;split at he
 case h_2=>cases he
 rename_i f1 fr1 ps1 assign1 body1 pend1 hx1 hid1;obtain⟨q2,hq2,he⟩:=qFL.1 he;split at he
 case h_2=>cases he
 rename_i f2 fr2 ps2 assign2 body2 pend2 st2 hid2;obtain⟨i2,i3,rc,i4,i5,i6,i7,i8,i9,i10⟩:=hw.liveM hid rfl hm;have hidl:id<H.length:=(qFF.1 hid).1;have hvs:vs.size=rc.params.size:=by rw[←ha.1,hlen,←i7];simp
 unfold vB;rw[run_yield i4 hvs];simp only;rw[i8,i9];have htm:((rc.params.zip vs).foldl (λtmps (t,a)=>tmps.setIfInBounds t a) rc.tmps)=((ps.zip vs.toList).foldl (λt (p,v)=>t.setIfInBounds p v) rc.tmps):=by
  rw[←Array.foldl_toList,Array.toList_zip,i7]
 have hfr0:qy C μ (zu fr ps args) ((rc.params.zip vs).foldl (λtmps (t,a)=>tmps.setIfInBounds t a) rc.tmps):=by
  rw[htm];exact qge ps (λi a v e1 e2=>ha.2 i a v e1 (by rw[←Array.getElem?_toList];exact e2)) (by rw[ha.1];simp) i10
 have hrd:RdOk (some id) (Fence.wide.inRound m.block) μ H.length:=⟨hidl,m,hm,rfl⟩;refine roundIn_of_wpIn trivial (wpIn_mono (qhX ok.ty hO ok.mixed (B:=w.heap.size) assign hq1 (a:=⟨_,[]⟩) (qFH _) hrd hfr0 hw ⟨qFH _,[],rfl,List.nodup_nil,λD h=>by cases h⟩) λe a1 w1 hp=>?_);obtain⟨e1,C1,μ1,p1,p2,p3,p4⟩:=hp;rw[hx1]at e1;subst e1;obtain⟨m1,hm1,hb1,-⟩:=p3.mu id m hidl hm;obtain⟨j2,j3,rc1,j4,j5,j6,j7,j8,j9,j10⟩:=p2.liveM hid1 rfl hm1
 rw[hb1]at j2 j3 j4;have hidl1:id<q1.2.2.length:=(qFF.1 hid1).1;refine⟨_,run_beginRound j4 j5,?_⟩;have hw2:Wld C1 μ1 (q1.2.2.set id (.loop f1 fr1 ps1 assign1 body1 pend1 .busy)) (w1.putObj m.block (.loop { rc1 with state:=.busy })):=
  p2.setBlk hid1 rfl rfl hm1 (by simp) (λb hb=>World.putObj_heap_other (hb1▸hb)) ⟨{ rc1 with state:=.busy },by rw[hb1];exact World.putObj_heap_same j2,rfl,j6,j7,j8,j9,j10⟩
 have hx2:Ext q1.2.2.length C1 μ1 q1.2.2 w1 C1 μ1 (q1.2.2.set id (.loop f1 fr1 ps1 assign1 body1 pend1 .busy)) (w1.putObj m.block (.loop { rc1 with state:=.busy })):=
  Ext.setBlk p2 hid1 rfl hm1 (by simp) (λb hb=>World.putObj_heap_other (hb1▸hb)) rfl rfl rfl (qFH _)
 have hx12:=p3.trans hx2 p3.len;have hrd2:RdOk (some id) (Fence.wide.inRound m.block) μ1 H.length:=⟨hidl,m1,hm1,by rw[hb1]⟩;refine wpIn_mono (qhX ok.ty hO ok.mixed (B:=w.heap.size) body hq2 (by simpa using p3.len) hrd2 p1 hw2 (p4.ext hx2)) λe a2 w3 hp=>?_
 obtain⟨e2,C3,μ3,g1,g2,g3,g4⟩:=hp;obtain⟨m3,hm3,hb3,-⟩:=g3.mu id m1 hidl hm1;rw[hb1]at hb3;obtain⟨k2,k3,rc3,k4,k5,k6,k7,k8,k9,k10⟩:=g2.liveM hid2 rfl hm3;rw[hb3]at k2 k3 k4;have fin:∀(jump:Option Code),∃v w4,(Instr.endRound m.block jump).run cfg.P w3= .ok v w4 ∧
   vY C μ H w (.bool jump.isNone) (q2.2.2.set id (.loop f2 fr2 ps2 assign2 body2 jump (if jump.isNone then .ready else .done))) v w4:=by
  intro jump;refine⟨_,_,run_endRound jump k4,C3,μ3,.bool _,?_,?_⟩
  ·exact g2.setBlk hid2 rfl rfl hm3 (by simp) (λb hb=>World.putObj_heap_other (hb3▸hb)) ⟨{ rc3 with state:=if jump.isNone then .ready else .done,pending:=jump },by rw[hb3];exact World.putObj_heap_same k2,rfl,rfl,k7,k8,k9,k10⟩
  ·have:=Ext.setBlk (k:=q2.2.2.length) (blk':=.loop f2 fr2 ps2 assign2 body2 jump (if jump.isNone then .ready else .done)) g2 hid2 rfl hm3 (w':=w3.putObj m.block (.loop { rc3 with state:=if jump.isNone then .ready else .done,pending:=jump })) (by simp) (λb hb=>World.putObj_heap_other (hb3▸hb)) rfl rfl rfl (qFH _);exact(hx12.trans g3 (qFH _)).trans this (hx12.trans g3 (qFH _)).len
 split at he
 ·rename_i hx;cases he;rw[hx]at e2;subst e2;obtain⟨v,w4,r1,r2⟩:=fin none;exact⟨v,w4,r1,v,rfl,r2⟩
 ·rename_i hx;cases he;rw[hx]at e2;subst e2;obtain⟨v,w4,r1,r2⟩:=fin (some .ret);exact⟨v,w4,r1,v,rfl,r2⟩
 ·rename_i x hx;cases he;rw[hx]at e2;subst e2;obtain⟨v,w4,r1,r2⟩:=fin (some (.exit x));exact⟨v,w4,r1,v,rfl,r2⟩
 ·cases he
theorem qqJ[Lent]{cfg:Cfg}(ok:CfgOk cfg){cf:Orac}(hO:OracOk2 cfg cf):OracOk2 cfg (vR cfg cf):=by
 have key:∀f args H r,vR cfg cf (.f f) args H=some r->cfg.ext f=none->∃fn c,cfg.known f=true∧cfg.P.funcs[f]? =some fn∧fn.body=some c∧((evC cfg cf f none H.length c (args++qGd (fn.ntmps - args.length) .junk) H).bind λr=>qeZ cfg fn.results.toList (r.1,xf (cfg.lift f 0) r.2.1 r.2.2))=some r:=by
  intro f args H r he hx;unfold vR at he;simp only[hx]at he;split at he
  case isFalse=>cases he
  rename_i hk;split at he
  case h_2=>cases he
  rename_i fn hf;split at he
  case h_2=>cases he
  rename_i c hb;exact⟨fn,c,hk,hf,hb,he⟩
 have enters:∀h args H r,vR cfg cf (.f h) args H=some r->cfg.ext h=none->∀vs w,(callFunc h vs).run cfg.P w= .ok (.enter h vs) w:=by
  intro h args H r he hx vs w;obtain⟨fn,c,h1,h2,h3,_⟩:=key h args H r he hx;exact qtL h2 (ok.named _ _ h1 h2) h3 vs w
 refine⟨λt args H r H' he C μ w vs s ha hw ht=>?_,enters⟩;cases t with
 |f f=>
  have hs:s=callFunc f vs:=ht;subst hs;cases hx:cfg.ext f with
  |some sp=>
   unfold vR at he;simp only[hx]at he;exact ok.ext f sp hx args H r H' he C μ w vs ha hw
  |none=>
   unfold vB;rw[enters _ _ _ _ he hx];obtain⟨fn,c,_,h2,h3,h4⟩:=key _ _ _ _ he hx;exact qwV ok hO h2 h3 h4 ha hw
 |y id=>
  obtain⟨m,hm,hs⟩:=ht;subst hs;exact qrD ok hO he ha hw hm
theorem qhV[Lent]{cfg:Cfg}(ok:CfgOk cfg):∀n,OracOk2 cfg (evF cfg n)
 |0=>⟨λt args H r H' he=>(by cases he),λh args H r he=>(by cases he)⟩
 |n+1=>qqJ ok (qhV ok n)
theorem yE[Lent]{cfg:Cfg}(ok:CfgOk cfg):OracOk2 cfg (EV cfg):=by
 refine⟨λt args H r H' he=>?_,λh args H r he=>?_⟩
 ·obtain⟨n,hn⟩:=qbN he;exact(qhV ok n).calls t args H r H' hn
 ·obtain⟨n,hn⟩:=qbN he;exact(qhV ok n).enters h args H r hn
theorem qzQ[Lent]{cfg:Cfg}(ok:CfgOk cfg){f:FuncId}{args:List AV}{vs:Array Value}{r:AV}(hx:cfg.ext f=none)(he:EV cfg (.f f) args H=some (r,H'))(ha:qy C μ args vs)(hw:Wld C μ H w):
  Calls cfg.P f vs w λe w'=>∃v,e= .returned v∧vY C μ H w r H' v w':=by
 have hO:=yE ok;have h:=hO.calls _ _ _ _ _ he C μ w vs _ ha hw rfl;unfold vB at h;rw[hO.enters _ _ _ _ he hx]at h;exact callsIn_wide.1 h
noncomputable section
variable {α β : Type}
def EvG(cf:Nat->Orac)(c:Orac)(G:Orac->Option α):Prop:=∀r,G c=some r->∃n,∀m,n<=m->G (cf m)=some r
def Ev(cf:Nat->Orac)(c:Orac):Prop:=∀t a H,EvG cf c (λo=>o t a H)
variable {cf : Nat → Orac} {c : Orac}
theorem EvG.const(x:Option α):EvG cf c (λ_=>x):=λ_r h=>⟨0,λ_ _=>h⟩
theorem EvG.bind{X:Orac->Option α}{K:Orac->α->Option β}(hX:EvG cf c X)(hK:∀a,EvG cf c (λo=>K o a)):EvG cf c (λo=>(X o).bind (K o)):=by
 intro r h;obtain⟨a,h1,h2⟩:=qFL.1 h;obtain⟨n,hn⟩:=hX a h1;obtain⟨n',hn'⟩:=hK a r h2;exact⟨max n n',λm hm=>by
  show(X (cf m)).bind (K (cf m))=some r;rw[hn m (by omega)];exact hn' m (by omega)⟩
theorem EvG.map{X:Orac->Option α}(f:α->β)(hX:EvG cf c X):EvG cf c (λo=>(X o).map f):=by
 intro r h;obtain⟨a,h1,h2⟩:=qFM.1 h;obtain⟨n,hn⟩:=hX a h1;exact⟨n,λm hm=>by
  show(X (cf m)).map f=some r;rw[hn m hm,←h2];rfl⟩
theorem EvG.ite{p:Prop}[Decidable p]{X Y:Orac->Option α}(hX:EvG cf c X)(hY:EvG cf c Y):EvG cf c (λo=>if p then X o else Y o):=by
 by_cases h:p
 ·simp only[qGq h];exact hX
 ·simp only[qGr h];exact hY
theorem qfv(h:Ev cf c)(f:Nat):∀l:List AV,EvG cf c (λo=>zY o f l)
 |[]=>EvG.const _
 |a::l=>by
  simp only[zY];exact(h _ _ _).bind λr=>(EvG.const _).bind λ_=>qfv h f l
theorem qh1(h:Ev cf c)(cfg:Cfg)(nid:Option Nat)(t:Tgt)(args:List AV)(H:AH):EvG cf c (λo=>vA cfg o nid t args H):=by
 cases t with
 |y id=>exact(h _ _ _).bind λr=>EvG.const _
 |f f=>
  simp only[vA];cases cfg.mode f with
  |scal=>exact EvG.ite ((h _ _ _).bind λr=>EvG.const _) (EvG.const _)
  |pfrz=>exact EvG.ite ((h _ _ _).bind λr=>EvG.const _) (EvG.const _)
  |nfrz=>exact EvG.ite ((h _ _ _).bind λr=>EvG.const _) (EvG.const _)
  |pown=>exact EvG.ite ((h _ _ _).bind λr=>EvG.const _) (EvG.const _)
  |inpl=>
   cases vo 0 args with
   |nil=>exact EvG.ite ((h _ _ _).bind λr=>EvG.const _) (EvG.const _)
   |cons id l=>
    refine EvG.ite ?_ (EvG.const _);cases hb:H[id]? with
    |none=>exact EvG.const _
    |some b=>
     cases b with
     |rows d sz rs=>exact EvG.ite ((h _ _ _).bind λr=>EvG.const _) (EvG.const _)
     |_=>exact EvG.const _
  |inpf=>
   cases vo 0 args with
   |nil=>exact EvG.const _
   |cons id l=>
    refine EvG.ite ?_ (EvG.const _);cases hb:H[id]? with
    |none=>exact EvG.const _
    |some b=>
     cases b with
     |rows d sz rs=>exact EvG.ite ((h _ _ _).bind λr=>EvG.const _) (EvG.const _)
     |_=>exact EvG.const _
  |slf=>
   cases vo 0 args with
   |nil=>exact EvG.const _
   |cons id l=>
    refine EvG.ite ?_ (EvG.const _);cases hb:H[id]? with
    |none=>exact EvG.const _
    |some b=>
     cases b with
     |rows d sz rs=>exact EvG.ite ((h _ _ _).bind λr=>EvG.const _) (EvG.const _)
     |_=>exact EvG.const _
  |imp=>exact(h _ _ _).bind λr=>EvG.const _
  |ifrz=>exact(h _ _ _).bind λr=>EvG.const _
  |rgn=>exact EvG.ite ((h _ _ _).bind λr=>EvG.const _) (EvG.const _)
  |over=>
   dsimp only;rcases args with _|⟨a,_|⟨b,l⟩⟩
   ·exact EvG.const _
   ·dsimp only;cases vo 0 a.alts with
    |nil=>exact EvG.const _
    |cons id l=>
     refine EvG.ite ?_ (EvG.const _);cases hb:H[id]? with
     |none=>exact EvG.const _
     |some b=>
      cases b with
      |reg=>exact(qfv h _ _).map _
      |spl=>exact(qfv h _ _).map _
      |_=>exact EvG.const _
   ·exact EvG.const _
theorem qy8(h:Ev cf c)(cfg:Cfg)(nid:Option Nat)(t:Tgt)(args:List AV)(H:AH):EvG cf c (λo=>yA cfg o nid t args H):=by
 unfold yA;split
 ·intro r hr;simp only at hr;split at hr
  case h_2=>cases hr
  rename_i a b h1 h2;obtain⟨n1,hn1⟩:=qh1 h cfg nid t _ H _ h1;obtain⟨n2,hn2⟩:=qh1 h cfg nid t _ H _ h2;refine⟨max n1 n2,λm hm=>?_⟩;have g1:vA cfg (cf m) nid t [.nilS] H=some a:=hn1 m (by omega);have g2:vA cfg (cf m) nid t [.em] H=some b:=hn2 m (by omega);simp only[g1,g2];exact hr
 ·exact qh1 h cfg nid t args H
theorem qhT(h:Ev cf c)(cfg:Cfg)(frz:Bool)(nid:Option Nat)(o:Oper)(x:Operand->AV)(H:AH):EvG cf c (λq=>vZ cfg q frz nid o x H):=by
 have core:∀(x:Operand->AV) (H:AH),EvG cf c (λq=>match o.op with
    | .call cl=>
     match cl.callee with
     | .value f=>(zy (x f) (cl.args.toList.map x)).bind λt=>yA cfg q nid t.1 t.2 H
     |_=>evOp cfg nid o.op o.type x H
    |_=>evOp cfg nid o.op o.type x H):=by
  intro x H;split
  ·split
   ·exact(EvG.const _).bind λt=>qy8 h cfg nid _ _ _
   ·exact EvG.const _
  ·exact EvG.const _
 unfold vZ;cases frz with
 |true=>simp only[if_true];exact core _ _
 |false=>simp only[qF5,if_false];exact core _ _
theorem qkI(h:Ev cf c)(cfg:Cfg)(f rid:Nat)(ops:Array Oper):∀(l:List Oper) (k:Nat) (fr:List AV) (H:AH),EvG cf c (λq=>qb8 cfg q f rid ops k l fr H)
 |[],k,fr,H=>EvG.const _
 |o::l,k,fr,H=>by
  simp only[qb8];refine(EvG.const _).bind λb=>EvG.ite ((qhT h cfg _ _ _ _ _).bind λr=>qkI h cfg f rid ops l _ _ _) (qkI h cfg f rid ops l _ _ _)
theorem qhW(h:Ev cf c)(cfg:Cfg)(f rid:Nat)(ops:Array Oper):∀(l:List Oper) (k at_:Nat) (fr:List AV) (H:AH),EvG cf c (λq=>zO cfg q f rid ops k at_ l fr H)
 |[],k,at_,fr,H=>EvG.const _
 |o::l,k,at_,fr,H=>by
  simp only[zO];refine(EvG.const _).bind λb=>EvG.ite ((qhT h cfg _ _ _ _ _).bind λr=>(qhW h cfg f rid ops l _ _ _ _).map _) ((qhW h cfg f rid ops l _ _ _ _).map _)
theorem qlO{k:Nat}{ts:Option (List Tmp)}{ls:List (Tmp×Nat)}{body:Den}:∀{n:Nat} {p:List AV×AH} {r:Ex×List AV×AH},qat k ts ls body n p=some r->qat k ts ls body (n+1) p=some r
 |0,_,_,h=>by cases h
 |n+1,p,r,h=>by
  rw[qat]at h⊢;obtain⟨q,h1,h2⟩:=qFL.1 h;rw[h1];simp only[qGa];cases hq:q.1 with
  |normal=>
   rw[hq]at h2;exact qlO h2
  |exit id=>rw[hq]at h2;exact h2
  |goto l=>rw[hq]at h2;exact h2
  |ret=>rw[hq]at h2;exact h2
theorem qhB{g:Nat->Option α}(hs:∀n r,g n=some r->g (n+1)=some r){n:Nat}{r:α}(h:g n=some r):lim g=some r:=by
 have up:∀{n:Nat} {r:α},g n=some r->∀d,g (n+d)=some r:=by
  intro n r h d
  induction d with
  |zero=>exact h
  |succ d ih=>exact hs _ _ ih
 have he:∃(n:Nat) (r:α),g n=some r:=⟨n,r,h⟩;unfold lim;rw[dif_pos he];have hc:=Classical.choose_spec (Classical.choose_spec he);have e1:=up h (Classical.choose he);have e2:=up hc n;rw[Nat.add_comm]at e2;rw[e1]at e2;exact e2.symm
theorem qnD{k:Nat}{ts:Option (List Tmp)}{ls:List (Tmp×Nat)}{body:Den}{n:Nat}{p:List AV×AH}{r:Ex×List AV×AH}(h:qat k ts ls body n p=some r):LOOP k ts ls body p=some r:=
 qhB (g:=λn=>qat k ts ls body n p) (λ_ _ h=>qlO h) h
theorem qp7{k:Nat}{ts:Option (List Tmp)}{ls:List (Tmp×Nat)}{body:Orac->Den}(hb:∀fr H,EvG cf c (λq=>body q fr H)):∀(n:Nat) (p:List AV×AH),EvG cf c (λq=>qat k ts ls (body q) n p)
 |0,_=>EvG.const _
 |n+1,p=>by
  simp only[qat];refine(hb _ _).bind λr=>?_
  cases r.1 with
  |normal=>exact qp7 hb n _
  |exit id=>exact EvG.const _
  |goto l=>exact EvG.const _
  |ret=>exact EvG.const _
theorem qCD{k:Nat}{ts:Option (List Tmp)}{ls:List (Tmp×Nat)}{body:Orac->Den}(hb:∀fr H,EvG cf c (λq=>body q fr H))(p:List AV×AH):EvG cf c (λq=>LOOP k ts ls (body q) p):=by
 intro r h;obtain⟨n,hn⟩:=qbN h;obtain⟨m,hm⟩:=qp7 hb n p r hn;exact⟨m,λi hi=>qnD (hm i hi)⟩
theorem qqK(h:Ev cf c)(cfg:Cfg)(f rid:Nat)(ops:Array Oper):∀(n:Nat) (D:List Nat) (fr:List AV) (H:AH),EvG cf c (λq=>qaA cfg q f rid ops n D fr H)
 |0,D,fr,H=>EvG.const _
 |n+1,D,fr,H=>by
  simp only[qaA];refine EvG.ite (EvG.const _) ?_;have key:∀l:List (Nat×Oper),EvG cf c (λq=>qbt (λi fr H=>qaA cfg q f rid ops n (i::D) fr H) (λi o=>qcn cfg q f rid ops i o fr H) l):=by
   intro l
   induction l with
   |nil=>exact EvG.const _
   |cons p l ih=>
    simp only[qbt];refine EvG.bind ?_ λq=>(qqK h cfg f rid ops n _ _ _).bind λL=>ih.map _
    simp only[qcn];exact(EvG.const _).bind λb=>EvG.ite ((qhT h cfg _ _ _ _ _).map _) (EvG.const _)
  exact key _
theorem qtJ{F:Orac->List AV->AH->Option (Ex×List AV×AH)}(hF:∀fr H,EvG cf c (λq=>F q fr H))(l:List (List AV×AH)):EvG cf c (λq=>qcX (F q) l):=by
 have key:∀(r:Ex×List AV×AH) (l:List (List AV×AH)),qaI (F c) r l=true->∃n,∀m,n<=m->qaI (F (cf m)) r l=true:=by
  intro r l
  induction l with
  |nil=>intro _;exact⟨0,λ_ _=>rfl⟩
  |cons x l ih=>
   intro h;simp only[qaI,qFJ]at h;obtain⟨n1,hn1⟩:=ih h.2;have h1:=h.1;split at h1
   ·rename_i r' hr';obtain⟨n2,hn2⟩:=hF _ _ _ hr';refine⟨max n1 n2,λm hm=>?_⟩;simp only[qaI,qFJ];have h2:F (cf m) x.1 x.2=some r':=hn2 m (by omega);exact⟨by rw[h2];exact h1,hn1 m (by omega)⟩
   ·cases h1
 cases l with
 |nil=>exact EvG.const _
 |cons x l=>
  intro r h;obtain⟨r',h1,h⟩:=qFL.1 h;split at h
  ·rename_i h2;cases h;obtain⟨n1,hn1⟩:=hF _ _ _ h1;obtain⟨n2,hn2⟩:=key _ _ h2;refine⟨max n1 n2,λm hm=>?_⟩;have h3:F (cf m) x.1 x.2=some _:=hn1 m (by omega);simp only[qcX,h3,qGa,hn2 m (by omega),if_true]
  ·cases h
theorem qqI(h:Ev cf c)(cfg:Cfg)(f:Nat)(rd:Option Nat)(k:Nat):∀(cd:Code) (fr:List AV) (H:AH),EvG cf c (λq=>evC cfg q f rd k cd fr H):=by
 intro cd
 induction cd with
 |skip=>intro fr H;simp only[evC];exact EvG.const _
 |label l=>intro fr H;simp only[evC];exact EvG.const _
 |exit id=>intro fr H;simp only[evC];exact EvG.const _
 |ret=>intro fr H;simp only[evC];exact EvG.const _
 |goto l=>intro fr H;simp only[evC];exact EvG.const _
 |refuse s=>intro fr H;simp only[evC];exact EvG.const _
 |region id ops draw=>
  intro fr H;simp only[evC];cases draw with
  |true=>simp only[if_true];exact EvG.ite ((qhW h cfg f id ops _ _ _ _ _).bind λq=>EvG.const _) (EvG.const _)
  |false=>simp only[qF5,if_false];exact(qkI h cfg f id ops _ _ _ _).map _
 |seq x y ihx ihy=>
  intro fr H;simp only[evC];split
  ·exact(qqK h cfg f _ _ _ _ _ _).bind λL=>qtJ (λfr H=>(ihy _ _).map _) L
  refine(ihx _ _).bind λr=>?_
  cases r.1 with
  |normal=>exact ihy _ _
  |exit id=>exact EvG.const _
  |goto l=>exact EvG.const _
  |ret=>exact EvG.const _
 |cond cnd x y ihx ihy=>
  intro fr H;simp only[evC];split
  ·exact EvG.ite (ihx _ _) (ihy _ _)
  ·exact EvG.const _
 |block id x ih=>
  intro fr H;simp only[evC];exact(ih _ _).bind λr=>EvG.const _
 |loop x ih=>
  intro fr H;simp only[evC];exact(qCD ih _).map _
 |scope x ih=>
  intro fr H;simp only[evC];exact(ih _ _).bind λr=>EvG.const _
 |rangeFunc g ps assign body=>
  intro fr H;simp only[evC,qe2];refine EvG.ite ?_ (EvG.const _);split
  ·exact EvG.ite (EvG.const _) ((h _ _ _).bind λr=>EvG.const _)
  ·exact EvG.const _
theorem qog(h:Ev cf c)(cfg:Cfg)(t:Tgt)(args:List AV)(H:AH):EvG cf c (λq=>vR cfg q t args H):=by
 unfold vR;cases t with
 |f f=>
  simp only;split
  ·exact EvG.const _
  ·refine EvG.ite ?_ (EvG.const _);split
   ·split
    ·exact(qqI h cfg f none _ _ _ _).bind λr=>EvG.const _
    ·exact EvG.const _
   ·exact EvG.const _
 |y id=>
  simp only;split
  ·refine EvG.ite ((qqI h cfg _ _ _ _ _ _).bind λr=>?_) (EvG.const _);split
   ·exact(qqI h cfg _ _ _ _ _ _).bind λq=>EvG.const _
   ·exact EvG.const _
  ·exact EvG.const _
end
theorem qbR(cfg:Cfg):∀(n:Nat) (t:Tgt) (a:List AV) (H:AH) (r:AV×AH),evF cfg n t a H=some r->evF cfg (n+1) t a H=some r
 |0,t,a,H,r,h=>by cases h
 |n+1,t,a,H,r,h=>by
  have hev:Ev (λ_=>evF cfg (n+1)) (evF cfg n):=λt a H r h=>⟨0,λ_ _=>qbR cfg n t a H r h⟩
  obtain⟨m,hm⟩:=qog hev cfg t a H r h;exact hm m (qFH _)
theorem qFC(cfg:Cfg):Ev (evF cfg) (EV cfg):=by
 intro t a H r h;obtain⟨n,hn⟩:=qbN h;refine⟨n,λm hm=>?_⟩;obtain⟨d,rfl⟩:=Nat.exists_eq_add_of_le hm
 induction d with
 |zero=>exact hn
 |succ d ih=>exact qbR cfg _ t a H r (ih (by omega))
theorem qcS{cfg:Cfg}{t:Tgt}{a:List AV}{H:AH}{r:AV×AH}(h:vR cfg (EV cfg) t a H=some r):EV cfg t a H=some r:=by
 obtain⟨n,hn⟩:=qog (qFC cfg) cfg t a H r h;exact qhB (g:=λn=>evF cfg n t a H) (λn r h=>qbR cfg n t a H r h) (n:=n+1) (hn n (qFH _))
theorem qia{k:Nat}{ts:Option (List Tmp)}{ls:List (Tmp×Nat)}{body:Den}{p:List AV×AH}{q:Ex×List AV×AH}(h:body p.1 p.2=some q)(hq:∀x,q≠(.normal,x)):LOOP k ts ls body p=some q:=by
 refine qnD (n:=1) ?_;rw[qat,h];obtain⟨e,q⟩:=q;cases e with
 |normal=>exact absurd rfl (hq q)
 |exit id=>rfl
 |goto l=>rfl
 |ret=>rfl
theorem qxG{k:Nat}{ts:Option (List Tmp)}{ls:List (Tmp×Nat)}{body:Den}{p:List AV×AH}{fr1:List AV}{H1:AH}{r:Ex×List AV×AH}(h:body p.1 p.2=some (.normal,fr1,H1))(hr:LOOP k ts ls body (qbr k ts ls fr1 H1)=some r):LOOP k ts ls body p=some r:=by
 obtain⟨n,hn⟩:=qbN hr;refine qnD (n:=n+1) ?_;rw[qat,h];exact hn
end Go.Av
end
