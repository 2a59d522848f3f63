/- Texts for LPlayUnlines,LPlayParses,LPlayTexts,LPlayNotes,LPlayLines, part 18. -/
import Derived.LaidLaws
import Derived.Lib.LaidU8
import Derived.Test.YtimonamjecmlcaaGreatDoorRows
import Derived.Test.YtimonamjecmlcaaGreatDoorPp17
set_option maxRecDepth 100000
namespace Go.V
theorem uB_toB:∀{l:List Int},B8 l->uB (toB l)=l
 | [],_=>rfl
 | n::l,h=>by
  have h1:=h n List.mem_cons_self
  have ih:=uB_toB (l:=l) fun x hx=>h x (List.mem_cons_of_mem _ hx)
  show (((UInt8.ofNat n.toNat).toNat:Nat):Int)::uB (toB l)=_
  rw [ih,UInt8.toNat_ofNat']
  congr 1
  omega
theorem rdB_ints{h:Array Obj}{s:Sl}{l:List Int}(r:Rd h s 1 (l.map (Value.int .u8)))(b:B8 l):RdB h s (toB l):=by
 show Rd h s 1 ((uB (toB l)).map (Value.int .u8))
 rw [uB_toB b]; exact r
end Go.V
namespace Go.Proofs.YtimonamjecmlcaaGreatDoor
open Go.V
section
variable {H:Type} {enc:TypeId×Value->H} {W:Wd}
def TQ:Nat->Prop:=fun _=>True
theorem bs_ty{t:TypeId}{v:Value}(hu:Tryz.prog.underlying t=some (.slice 5))(h:TyRS enc pz W t [v]):∃ (s:Sl) (l:Bs),v = .slice s.a s.len s.cap/\RdQ TQ W.heap s l/\l.length<=140737488351232:=by
 obtain ⟨s,l,e,r,b,z⟩:=h.bytes hu (by kernel_rfl) (by kernel_rfl) (by kernel_rfl)
 cases e
 have r':=rdB_ints r b
 exact ⟨s,toB l,rfl,⟨r',fun _ _ _=>trivial⟩,by have:=RdB.len r'; omega⟩
theorem op_ty{es:List Value}(hl:es.length=3)(hr:TyRS enc pz W 54 es):∃ o:OpV×OpP,es=o.1.cells/\OpR TQ W.heap o.1 o.2/\o.2.key.length<=140737488351232/\o.2.val.length<=140737488351232:=by
 obtain ⟨v0,g0,t0⟩:=hr.fld 0 (o:=0) (n:=3) (by kernel_rfl) (by kernel_rfl) (by kernel_rfl) (by kernel_rfl) hl (by decide)
 obtain ⟨v1,g1,t1⟩:=hr.fld 1 (o:=1) (n:=3) (by kernel_rfl) (by kernel_rfl) (by kernel_rfl) (by kernel_rfl) hl (by decide)
 obtain ⟨v2,g2,t2⟩:=hr.fld 2 (o:=2) (n:=3) (by kernel_rfl) (by kernel_rfl) (by kernel_rfl) (by kernel_rfl) hl (by decide)
 obtain ⟨s0,l0,e0,r0,z0⟩:=bs_ty (by kernel_rfl) t0
 obtain ⟨s1,l1,e1,r1,z1⟩:=bs_ty (by kernel_rfl) t1
 obtain ⟨b,e2⟩:=t2.tyR.bool (by kernel_rfl)
 cases e0; cases e1; cases e2
 refine ⟨(⟨s0,s1,b⟩,⟨l0,l1,b⟩),?_,⟨r0,r1,rfl⟩,z0,z1⟩
 match es,hl,g0,g1,g2 with
 | [x,y,z],_,g0,g1,g2=>simp at g0 g1 g2; simp [OpV.cells,g0,g1,g2]
theorem ops_ty{t:TypeId}{v:Value}(hu:Tryz.prog.underlying t=some (.slice 54))(h:TyRS enc pz W t [v]):∃ (s:Sl) (l:List OpP),v = .slice s.a s.len s.cap/\OpsR TQ W.heap s l/\l.length<=140737488351232/\∀ o∈l,o.key.length<=140737488351232/\o.val.length<=140737488351232:=by
 obtain ⟨s,e,ess,el⟩:=h.slice hu
 cases e
 obtain ⟨L,h1,h2,h3⟩:=el.list (fun o:OpV×OpP=>o.1.cells) (fun o=>OpR TQ W.heap o.1 o.2/\o.2.key.length<=140737488351232/\o.2.val.length<=140737488351232) (fun es hl hr=>op_ty (by rw [hl]; kernel_rfl) hr) (sz:=3) (by kernel_rfl) (by decide) (fun x _ v hv=>opC_one [x] v (by simpa [opC] using hv))
 have hb:Tryz.prog.bytesOf 54=56:=by kernel_rfl
 have hz:=el.sz
 rw [hb] at hz
 have hc:=el.cap
 have hr:reachBytes=140737488351232:=rfl
 refine ⟨s,L.map Prod.snd,rfl,⟨L,rfl,h2,fun _ _ _=>trivial,fun e he=>(h3 e he).1⟩,by rw [List.length_map]; omega,fun o ho=>?_⟩
 obtain ⟨e,he,rfl⟩:=List.mem_map.1 ho
 exact (h3 e he).2
theorem int_rng{n:Int}{k:IntKind}(h:(Lit.int k n).wf=true):k.min<=n/\n<=k.max:=by simpa [Lit.wf] using h
structure EvOK(h:Array Obj)(v:EvV)(e:EvP):Prop where
 r:EvR TQ h v e
 rg:RngC e.call
 bd:BndE e
set_option maxHeartbeats 1000000 in
theorem call_ty{es:List Value}(hl:es.length=14)(hr:TyRS enc pz W 30 es):∃ (v:CallV) (c:CallP),es=v.cells/\CallR TQ W.heap v c/\RngC c/\(c.secret.length<=140737488351232/\c.key.length<=140737488351232/\c.frm.length<=140737488351232/\c.upto.length<=140737488351232/\c.ops.length<=140737488351232/\∀ o∈c.ops,o.key.length<=140737488351232/\o.val.length<=140737488351232):=by
 obtain ⟨v0,g0,t0⟩:=hr.fld 0 (o:=0) (n:=14) (by kernel_rfl) (by kernel_rfl) (by kernel_rfl) (by kernel_rfl) hl (by decide)
 obtain ⟨v1,g1,t1⟩:=hr.fld 1 (o:=1) (n:=14) (by kernel_rfl) (by kernel_rfl) (by kernel_rfl) (by kernel_rfl) hl (by decide)
 obtain ⟨v2,g2,t2⟩:=hr.fld 2 (o:=2) (n:=14) (by kernel_rfl) (by kernel_rfl) (by kernel_rfl) (by kernel_rfl) hl (by decide)
 obtain ⟨v3,g3,t3⟩:=hr.fld 3 (o:=3) (n:=14) (by kernel_rfl) (by kernel_rfl) (by kernel_rfl) (by kernel_rfl) hl (by decide)
 obtain ⟨v4,g4,t4⟩:=hr.fld 4 (o:=4) (n:=14) (by kernel_rfl) (by kernel_rfl) (by kernel_rfl) (by kernel_rfl) hl (by decide)
 obtain ⟨v5,g5,t5⟩:=hr.fld 5 (o:=5) (n:=14) (by kernel_rfl) (by kernel_rfl) (by kernel_rfl) (by kernel_rfl) hl (by decide)
 obtain ⟨v6,g6,t6⟩:=hr.fld 6 (o:=6) (n:=14) (by kernel_rfl) (by kernel_rfl) (by kernel_rfl) (by kernel_rfl) hl (by decide)
 obtain ⟨v7,g7,t7⟩:=hr.fld 7 (o:=7) (n:=14) (by kernel_rfl) (by kernel_rfl) (by kernel_rfl) (by kernel_rfl) hl (by decide)
 obtain ⟨v8,g8,t8⟩:=hr.fld 8 (o:=8) (n:=14) (by kernel_rfl) (by kernel_rfl) (by kernel_rfl) (by kernel_rfl) hl (by decide)
 obtain ⟨v9,g9,t9⟩:=hr.fld 9 (o:=9) (n:=14) (by kernel_rfl) (by kernel_rfl) (by kernel_rfl) (by kernel_rfl) hl (by decide)
 obtain ⟨v10,g10,t10⟩:=hr.fld 10 (o:=10) (n:=14) (by kernel_rfl) (by kernel_rfl) (by kernel_rfl) (by kernel_rfl) hl (by decide)
 obtain ⟨v11,g11,t11⟩:=hr.fld 11 (o:=11) (n:=14) (by kernel_rfl) (by kernel_rfl) (by kernel_rfl) (by kernel_rfl) hl (by decide)
 obtain ⟨v12,g12,t12⟩:=hr.fld 12 (o:=12) (n:=14) (by kernel_rfl) (by kernel_rfl) (by kernel_rfl) (by kernel_rfl) hl (by decide)
 obtain ⟨v13,g13,t13⟩:=hr.fld 13 (o:=13) (n:=14) (by kernel_rfl) (by kernel_rfl) (by kernel_rfl) (by kernel_rfl) hl (by decide)
 obtain ⟨n0,e0,_⟩:=t0.tyR.int (k := .i64) (by kernel_rfl)
 obtain ⟨n1,e1,w1⟩:=t1.tyR.int (k := .u32) (by kernel_rfl)
 obtain ⟨s2,l2,e2,r2,z2⟩:=bs_ty (by kernel_rfl) t2
 obtain ⟨n3,e3,_⟩:=t3.tyR.int (k := .i64) (by kernel_rfl)
 obtain ⟨n4,e4,_⟩:=t4.tyR.int (k := .i64) (by kernel_rfl)
 obtain ⟨n5,e5,w5⟩:=t5.tyR.int (k := .u64) (by kernel_rfl)
 obtain ⟨n6,e6,w6⟩:=t6.tyR.int (k := .u64) (by kernel_rfl)
 obtain ⟨n7,e7,w7⟩:=t7.tyR.int (k := .u64) (by kernel_rfl)
 obtain ⟨n8,e8,w8⟩:=t8.tyR.int (k := .u8) (by kernel_rfl)
 obtain ⟨s9,l9,e9,r9,z9,q9⟩:=ops_ty (by kernel_rfl) t9
 obtain ⟨s10,l10,e10,r10,z10⟩:=bs_ty (by kernel_rfl) t10
 obtain ⟨s11,l11,e11,r11,z11⟩:=bs_ty (by kernel_rfl) t11
 obtain ⟨s12,l12,e12,r12,z12⟩:=bs_ty (by kernel_rfl) t12
 obtain ⟨b13,e13⟩:=t13.tyR.bool (by kernel_rfl)
 cases e0; cases e1; cases e2; cases e3; cases e4; cases e5; cases e6; cases e7; cases e8; cases e9; cases e10; cases e11; cases e12; cases e13
 have u1:=int_rng w1; have u5:=int_rng w5; have u6:=int_rng w6; have u7:=int_rng w7; have u8:=int_rng w8
 have m1:IntKind.min .u32=0/\IntKind.max .u32=4294967295:=⟨rfl,rfl⟩
 have m5:IntKind.min .u64=0/\IntKind.max .u64=18446744073709551615:=⟨rfl,rfl⟩
 have m8:IntKind.min .u8=0/\IntKind.max .u8=255:=⟨rfl,rfl⟩
 refine ⟨⟨n0,n1,s2,n3,n4,n5,n6,n7,n8,s9,s10,s11,s12,b13⟩,⟨n0,n1,l2,n3,n4,n5,n6,n7,n8,l9,l10,l11,l12,b13⟩,?_,⟨rfl,rfl,r2,rfl,rfl,rfl,rfl,rfl,rfl,r9,r10,r11,r12,rfl⟩,
  ⟨⟨by show 0<=n1; omega,by show n1 < _; omega⟩,⟨by show 0<=n5; omega,by show n5 < _; omega⟩,⟨by show 0<=n6; omega,by show n6 < _; omega⟩,⟨by show 0<=n7; omega,by show n7 < _; omega⟩,⟨by show 0<=n8; omega,by show n8 < _; omega⟩⟩,z2,z10,z11,z12,z9,q9⟩
 match es,hl,g0,g1,g2,g3,g4,g5,g6,g7,g8,g9,g10,g11,g12,g13 with
 | [a0,a1,a2,a3,a4,a5,a6,a7,a8,a9,a10,a11,a12,a13],_,g0,g1,g2,g3,g4,g5,g6,g7,g8,g9,g10,g11,g12,g13 =>
  simp at g0 g1 g2 g3 g4 g5 g6 g7 g8 g9 g10 g11 g12 g13
  simp [CallV.cells,g0,g1,g2,g3,g4,g5,g6,g7,g8,g9,g10,g11,g12,g13]
set_option maxHeartbeats 1000000 in
theorem ev_ty{es:List Value}(hl:es.length=19)(hr:TyRS enc pz W 32 es):∃ p:EvV×EvP,es=p.1.cells/\EvOK W.heap p.1 p.2:=by
 obtain ⟨v0,g0,t0⟩:=hr.fld 0 (o:=0) (n:=19) (by kernel_rfl) (by kernel_rfl) (by kernel_rfl) (by kernel_rfl) hl (by decide)
 have t1:=hr.fldN 1 (o:=1) (m:=14) (by kernel_rfl) (by kernel_rfl) (by kernel_rfl) (by kernel_rfl)
 obtain ⟨v2,g2,t2⟩:=hr.fld 2 (o:=15) (n:=19) (by kernel_rfl) (by kernel_rfl) (by kernel_rfl) (by kernel_rfl) hl (by decide)
 obtain ⟨v3,g3,t3⟩:=hr.fld 3 (o:=16) (n:=19) (by kernel_rfl) (by kernel_rfl) (by kernel_rfl) (by kernel_rfl) hl (by decide)
 obtain ⟨v4,g4,t4⟩:=hr.fld 4 (o:=17) (n:=19) (by kernel_rfl) (by kernel_rfl) (by kernel_rfl) (by kernel_rfl) hl (by decide)
 obtain ⟨v5,g5,t5⟩:=hr.fld 5 (o:=18) (n:=19) (by kernel_rfl) (by kernel_rfl) (by kernel_rfl) (by kernel_rfl) hl (by decide)
 obtain ⟨n0,e0,_⟩:=t0.tyR.int (k := .i64) (by kernel_rfl)
 obtain ⟨v,c,e1,rc,rg,y1,y2,y3,y4,y5,y6⟩:=call_ty (by simp [hl]) t1
 obtain ⟨n2,e2,_⟩:=t2.tyR.int (k := .i64) (by kernel_rfl)
 obtain ⟨n3,e3,_⟩:=t3.tyR.int (k := .i64) (by kernel_rfl)
 obtain ⟨s4,l4,e4,r4,z4⟩:=bs_ty (by kernel_rfl) t4
 obtain ⟨s5,l5,e5,r5,z5⟩:=bs_ty (by kernel_rfl) t5
 cases e0; cases e2; cases e3; cases e4; cases e5
 refine ⟨(⟨n0,v,n2,n3,s4,s5⟩,⟨n0,c,n2,n3,l4,l5⟩),?_,⟨rfl,rc,rfl,rfl,r4,r5⟩,rg,?_⟩
 .match es,hl,g0,e1,g2,g3,g4,g5 with
  | [a0,a1,a2,a3,a4,a5,a6,a7,a8,a9,a10,a11,a12,a13,a14,a15,a16,a17,a18],_,g0,e1,g2,g3,g4,g5 =>
   simp at g0 g2 g3 g4 g5
   simp only [List.drop_succ_cons,List.drop_zero,List.take_succ_cons,List.take_zero] at e1
   show _=Value.int .i64 n0::(v.cells++_)
   rw [<- e1,g0,g2,g3,g4,g5]; rfl
 .refine ⟨by show c.secret.length<=_; omega,by show c.key.length<=_; omega,by show c.frm.length<=_; omega,by show c.upto.length<=_; omega,by show l4.length<=_; omega,by show l5.length<=_; omega,by show c.ops.length<=_; omega,fun o ho=>?_⟩
  have:=y6 o ho; omega
theorem evs_open{s:Sl}{ess:List (List Value)}(el:ElemsS enc pz W 32 s ess):∃ l:List EvP,EvsR TQ W.heap s l/\(∀ e∈l,RngC e.call)/\∀ e∈l,BndE e:=by
 obtain ⟨L,h1,h2,h3⟩:=el.list (fun o:EvV×EvP=>o.1.cells) (fun o=>EvOK W.heap o.1 o.2) (fun es hl hr=>ev_ty (by rw [hl]; kernel_rfl) hr) (sz:=19) (by kernel_rfl) (by decide) (fun x _=>x.1.one)
 refine ⟨L.map Prod.snd,⟨L,rfl,h2,fun _ _ _=>trivial,fun e he=>(h3 e he).r⟩,fun e he=>?_,fun e he=>?_⟩
 .obtain ⟨p,hp,rfl⟩:=List.mem_map.1 he; exact (h3 p hp).rg
 .obtain ⟨p,hp,rfl⟩:=List.mem_map.1 he; exact (h3 p hp).bd
theorem tab_at{name:String}{k:IntKind}{zs:List Int}{g:Nat}{t e:TypeId}{n:Nat}(hg:Tryz.prog.globalNamed name=some g)(hty:(Tryz.prog.globals[g]?).map (·.type)=some t)(ht:Tryz.prog.underlying t=some (.array n e))(he:Tryz.prog.underlying e=some (.int k))
  (hce:Tryz.prog.cellsOf e=1) (hct:Tryz.prog.cellsOf t=n) (h:Lib.VarReads pz W name (Lib.tabData k zs)) (i:Nat) (hi:i < zs.length):hcell W.heap g i=some (.int k (zs.getD i 0)):=by
 obtain ⟨g',t',cs,fuel,p,hg',hty',hvar,hd⟩:=h
 obtain rfl:=Option.some.inj (hg.symm.trans hg')
 obtain rfl:=Option.some.inj (hty.symm.trans hty')
 have ti:Lib.TabIs pz W name k zs:=by
  unfold Lib.TabIs
  rw [hvar,<- Lib.cells_of_tab ht he hce hct hd]
 rw [<- cell_eq]
 exact ti.cell hg i hi
theorem err_at{name nm:String}{d:DataW Unit}{g:Nat}(hg:Tryz.prog.globalNamed name=some g)(hty:(Tryz.prog.globals[g]?).map (·.type)=some 68){ms:Array (String×TypeId)}(hi:Tryz.prog.underlying 68=some (.interface ms))
  (h:Lib.VarReads pz W name (.iface nm d)):∃ v,hcell W.heap g 0=some v/\IsI v:=by
 obtain ⟨g',t',cs,fuel,p,hg',hty',hvar,hd⟩:=h
 obtain rfl:=Option.some.inj (hg.symm.trans hg')
 obtain rfl:=Option.some.inj (hty.symm.trans hty')
 obtain ⟨f',u,v,e,_,_⟩:=iface_of_trod hi hd
 refine ⟨.iface u v,?_,?_⟩
 .rw [<- cell_eq,World.var?_cell hg hvar 0,<- Array.getElem?_toList,e]; rfl
 .trivial
theorem u68:Tryz.prog.underlying 68=some (.interface (match Tryz.prog.underlying 68 with | some (.interface ms)=>ms | _=>#[])):=by kernel_rfl
def zs10:List Int:=[1,10,100,1000,10000,100000,1000000,10000000,100000000,1000000000,10000000000,100000000000,1000000000000,10000000000000,100000000000000,1000000000000000,10000000000000000,100000000000000000,1000000000000000000,10000000000000000000]
def zs64:List Int:=[0,1,56,2,57,49,28,3,61,58,42,50,38,29,17,4,62,47,59,36,45,43,51,22,53,39,33,30,24,18,12,5,63,55,48,27,60,41,37,16,46,35,44,21,52,32,23,11,54,26,40,15,34,20,31,10,25,14,19,9,13,8,7,6]
theorem zs10_at:∀ i:Fin 20,zs10.getD i.val 0=((10 ^ i.val:Nat):Int):=by decide +kernel
theorem zs64_at:∀ i:Fin 64,0<=zs64.getD i.val 0/\zs64.getD i.val 0<=255:=by decide +kernel
theorem gl_of {laid : List (String × DataW Unit)} (h : laidMet pz laid W) (h1 : ("internal/strconv.uint64pow10", Rows.laid_internal_strconv_uint64pow10) ∈ laid) (h2 : ("math/bits.deBruijn64tab", Rows.laid_math_bits_deBruijn64tab) ∈ laid)
    (h3 : ("strconv.ErrSyntax", Rows.laid_strconv_ErrSyntax) ∈ laid) (h4 : ("strconv.ErrRange", Rows.laid_strconv_ErrRange) ∈ laid) : Gl W.heap ∧ 8 ≤ W.heap.size := by
  have a1:=fun i hi=>tab_at (W:=W) (g:=0) (t:=152) (e:=26) (n:=20) (k := .u64) (zs:=zs10) (by kernel_rfl) (by kernel_rfl) (by kernel_rfl) (by kernel_rfl) (by kernel_rfl) (by kernel_rfl) (Lib.laidMet.reads h h1) i hi
  have a2:=fun i hi=>tab_at (W:=W) (g:=7) (t:=171) (e:=5) (n:=64) (k := .u8) (zs:=zs64) (by kernel_rfl) (by kernel_rfl) (by kernel_rfl) (by kernel_rfl) (by kernel_rfl) (by kernel_rfl) (Lib.laidMet.reads h h2) i hi
  have l10:zs10.length=20:=rfl
  have l64:zs64.length=64:=rfl
  refine ⟨⟨fun i hi=>?_,fun i hi=>⟨_,a2 i (by omega),zs64_at ⟨i,hi⟩⟩,err_at (by kernel_rfl) (by kernel_rfl) u68 (Lib.laidMet.reads h h3),err_at (by kernel_rfl) (by kernel_rfl) u68 (Lib.laidMet.reads h h4)⟩,?_⟩
  · rw [a1 i (by omega),zs10_at ⟨i,hi⟩]
  · have:=hcell_lt (a2 0 (by omega)); omega
end
end Go.Proofs.YtimonamjecmlcaaGreatDoor
